/- The walks of the functions that the law reaches: each summary holds. No condition. -/
import Derived.Test.YtfbogeakgmickaaPZ
import Derived.Test.YtfbogeakgmickaaProg
namespace Go.Proofs.Ytfbogeakgmickaa
open Go.RowKit
set_option linter.unusedVariables false
set_option linter.unusedSimpArgs false
abbrev s34 : Sh := .sl 34 (.int 3)
abbrev s72 : Sh := .st 72 (.pair (.int 3) (.pair (.int 3) s34))
abbrev T72 : Type := (Int × (Int × (List Int)))
abbrev s70 : Sh := .st 70 (.pair (.int 3) (.pair (.int 3) s34))
abbrev T70 : Type := (Int × (Int × (List Int)))
def gam : Gam := [(34, (.int 3), 8), (185, s34, 24)]
theorem gamOK : GamOK Try.prog gam := (.cons (Elem.of (.int .i64 0) Try.underlying34 (by kernel_rfl) rfl (by decide) (by decide)) (.cons (Elem.of (.slice none 0 0) Try.underlying185 (by kernel_rfl) rfl (by decide) (by decide)) .nil))
theorem mixed : Try.prog.follows .mixedOrders = true := by kernel_rfl
def inR (n lo hi : Int) : Bool := decide (lo ≤ n ∧ n ≤ hi)
theorem inR_t {n a b : Int} (h : inR n a b = true) : a ≤ n ∧ n ≤ b := of_decide_eq_true h
theorem inR_f {n a b : Int} (h : inR n a b = false) : n < a ∨ b < n := by have := of_decide_eq_false h; omega
def lenOK {α : Type} (xs : List α) : Prop := xs.length ≤ 1073741824
def idL {α : Type} (xs : List α) : List α := xs
section
variable {α β : Type}
/-- none of the first i -/
def noneTo (p : α → Bool) (xs : List α) (z : α) (i : Nat) : Prop := ∀ j, j < i → p (xs.getD j z) = false
def idxF (p : α → Bool) : List α → Int
  | [] => -1
  | x :: l => if p x = true then 0 else if idxF p l < 0 then -1 else idxF p l + 1
theorem noneTo_zero {p : α → Bool} {xs : List α} {z : α} : noneTo p xs z 0 := fun j h => by omega
theorem noneTo_succ {p : α → Bool} {xs : List α} {z : α} {i : Nat} (h : noneTo p xs z i) (k : p (xs.getD i z) = false) : noneTo p xs z (i + 1) := fun j hj => by
  by_cases e : j = i
  · subst e; exact k
  · exact h j (by omega)
theorem idxF_at {p : α → Bool} {z : α} : ∀ {xs : List α} {i : Nat}, i < xs.length → noneTo p xs z i → p (xs.getD i z) = true → idxF p xs = i
  | [], _, h, _, _ => by simp at h
  | x :: l, 0, _, _, k => by
    have k : p x = true := k
    simp [idxF, k]
  | x :: l, i + 1, h, hn, k => by
    have h0 : p x = false := hn 0 (by omega)
    have := idxF_at (xs := l) (i := i) (by simpa using h) (fun j hj => by have := hn (j + 1) (by omega); simpa using this) (by simpa using k)
    simp only [idxF, h0, this]
    rw [if_neg (by decide), if_neg (by omega)]
    omega
theorem idxF_none {p : α → Bool} {z : α} : ∀ {xs : List α} {i : Nat}, xs.length ≤ i → noneTo p xs z i → idxF p xs = -1
  | [], _, _, _ => rfl
  | x :: l, 0, h, _ => by simp at h
  | x :: l, i + 1, h, hn => by
    have h0 : p x = false := hn 0 (by omega)
    have := idxF_none (xs := l) (i := i) (by simpa using h) (fun j hj => by have := hn (j + 1) (by omega); simpa using this)
    simp [idxF, h0, this]
theorem idxF_pos {p : α → Bool} : ∀ {xs : List α}, 0 ≤ idxF p xs ↔ xs.any p = true
  | [] => by simp [idxF]
  | x :: l => by
    have := idxF_pos (xs := l) (p := p)
    simp only [idxF, List.any_cons, Bool.or_eq_true, ← this]
    by_cases hx : p x = true
    · simp [hx]
    · rw [if_neg hx]
      split
      · rename_i h; constructor
        · intro h'; omega
        · rintro (h' | h')
          · exact absurd h' hx
          · omega
      · rename_i h; constructor
        · intro h'; right; omega
        · intro _; omega
theorem idxF_any {p : α → Bool} {xs : List α} : decide (idxF p xs ≥ 0) = xs.any p := by
  rw [Bool.eq_iff_iff, decide_eq_true_iff]; exact idxF_pos
/-- the first i alike -/
def allTo2 (e : α → β → Bool) (xs : List α) (ys : List β) (z : α) (y : β) (i : Nat) : Prop := ∀ j, j < i → e (xs.getD j z) (ys.getD j y) = true
def eqF (e : α → β → Bool) : List α → List β → Bool
  | [], [] => true
  | x :: l, y :: l' => e x y && eqF e l l'
  | _, _ => false
theorem allTo2_zero {e : α → β → Bool} {xs : List α} {ys : List β} {z : α} {y : β} : allTo2 e xs ys z y 0 := fun j h => by omega
theorem allTo2_succ {e : α → β → Bool} {xs : List α} {ys : List β} {z : α} {y : β} {i : Nat} (h : allTo2 e xs ys z y i) (k : e (xs.getD i z) (ys.getD i y) = true) : allTo2 e xs ys z y (i + 1) := fun j hj => by
  by_cases e : j = i
  · subst e; exact k
  · exact h j (by omega)
theorem eqF_len {e : α → β → Bool} : ∀ {xs : List α} {ys : List β}, xs.length ≠ ys.length → eqF e xs ys = false
  | [], [], h => absurd rfl h
  | [], _ :: _, _ => rfl
  | _ :: _, [], _ => rfl
  | _ :: l, _ :: l', h => by simp only [eqF]; rw [eqF_len (xs := l) (ys := l') (by simpa using h), Bool.and_false]
theorem eqF_at {e : α → β → Bool} {z : α} {y : β} : ∀ {xs : List α} {ys : List β} {i : Nat}, i < xs.length → i < ys.length → e (xs.getD i z) (ys.getD i y) = false → eqF e xs ys = false
  | x :: l, y' :: l', 0, _, _, h => by
    have h : e x y' = false := h
    simp [eqF, h]
  | x :: l, y' :: l', i + 1, h1, h2, h => by simp only [eqF]; rw [eqF_at (xs := l) (ys := l') (i := i) (by simpa using h1) (by simpa using h2) (by simpa using h), Bool.and_false]
  | [], _, _, h1, _, _ => by simp at h1
  | _ :: _, [], _, _, h2, _ => by simp at h2
theorem eqF_all {e : α → β → Bool} {z : α} {y : β} : ∀ {xs : List α} {ys : List β} {i : Nat}, xs.length = ys.length → xs.length ≤ i → allTo2 e xs ys z y i → eqF e xs ys = true
  | [], [], _, _, _, _ => rfl
  | [], _ :: _, _, h, _, _ => by simp at h
  | _ :: _, [], _, h, _, _ => by simp at h
  | x :: l, y' :: l', 0, _, h, _ => by simp at h
  | x :: l, y' :: l', i + 1, h, hi, ha => by
    have h0 : e x y' = true := ha 0 (by omega)
    simp only [eqF]
    rw [h0, eqF_all (xs := l) (ys := l') (i := i) (by simpa using h) (by simpa using hi) (fun j hj => by have := ha (j + 1) (by omega); simpa using this)]
    rfl
/-- all of the first i -/
def allTo1 (p : α → Bool) (xs : List α) (z : α) (i : Nat) : Prop := ∀ j, j < i → p (xs.getD j z) = true
theorem allTo1_zero {p : α → Bool} {xs : List α} {z : α} : allTo1 p xs z 0 := fun j h => by omega
theorem allTo1_succ {p : α → Bool} {xs : List α} {z : α} {i : Nat} (h : allTo1 p xs z i) (k : p (xs.getD i z) = true) : allTo1 p xs z (i + 1) := fun j hj => by
  by_cases e : j = i
  · subst e; exact k
  · exact h j (by omega)
theorem all_at {p : α → Bool} {xs : List α} {z : α} {i : Nat} (h : i < xs.length) (k : p (xs.getD i z) = false) : xs.all p = false := by
  rw [Bool.eq_false_iff]; intro ha
  have := List.all_eq_true.1 ha _ (getD_mem (z := z) h)
  rw [k] at this; cases this
theorem all_of {p : α → Bool} {xs : List α} {z : α} {i : Nat} (h : xs.length ≤ i) (k : allTo1 p xs z i) : xs.all p = true := by
  rw [List.all_eq_true]; intro x hx
  obtain ⟨j, hj, rfl⟩ := List.getElem_of_mem hx
  have := k j (by omega)
  rwa [getD_of_lt hj] at this
/-- folded so far -/
def foldTo (f : β → α → β) (b : β) (xs : List α) (i : Nat) : β := (xs.take i).foldl f b
theorem foldTo_zero {f : β → α → β} {b : β} {xs : List α} : foldTo f b xs 0 = b := rfl
theorem foldTo_succ {f : β → α → β} {b : β} {xs : List α} {i : Nat} (z : α) (h : i < xs.length) : foldTo f b xs (i + 1) = f (foldTo f b xs i) (xs.getD i z) := by
  unfold foldTo; rw [take_snoc (z := z) h, List.foldl_append]; rfl
theorem foldTo_all {f : β → α → β} {b : β} {xs : List α} {i : Nat} (h : xs.length ≤ i) : foldTo f b xs i = xs.foldl f b := by unfold foldTo; rw [take_all h]
end
theorem beqT {a b : Bool} (h : a = b) : (a == b) = true := by subst h; simp
section
variable {α β : Type}
theorem any_at {p : α → Bool} {xs : List α} {z : α} {i : Nat} (h : i < xs.length) (k : p (xs.getD i z) = true) : xs.any p = true := List.any_eq_true.2 ⟨_, getD_mem h, k⟩
theorem any_of {p : α → Bool} {xs : List α} {z : α} {i : Nat} (h : xs.length ≤ i) (k : noneTo p xs z i) : xs.any p = false := by
  rw [Bool.eq_false_iff]; intro ha
  obtain ⟨x, hx, hp⟩ := List.any_eq_true.1 ha
  obtain ⟨j, hj, rfl⟩ := List.getElem_of_mem hx
  have := k j (by omega)
  rw [getD_of_lt hj, hp] at this; cases this
/-- P holds of all below n -/
def allN (P : Nat → Bool) : Nat → Bool
  | 0 => true
  | n + 1 => allN P n && P n
theorem allN_succ {P : Nat → Bool} {i : Nat} (h : allN P i = true) (k : P i = true) : allN P (i + 1) = true := by simp [allN, h, k]
theorem allN_iff {P : Nat → Bool} : ∀ {n : Nat}, allN P n = true ↔ ∀ j, j < n → P j = true
  | 0 => by simp [allN]
  | n + 1 => by
    simp only [allN, Bool.and_eq_true, allN_iff (n := n)]
    constructor
    · rintro ⟨h1, h2⟩ j hj
      by_cases e : j = n
      · rw [e]; exact h2
      · exact h1 j (by omega)
    · intro h; exact ⟨fun j hj => h j (by omega), h n (by omega)⟩
theorem allN_eq {P : Nat → Bool} {i n : Nat} (h : n ≤ i) (h' : i ≤ n) (k : allN P i = true) : allN P n = true := by rw [show n = i by omega]; exact k
theorem allN_at {P : Nat → Bool} {i n : Nat} (h : i < n) (k : P i = false) : allN P n = false := by
  rw [Bool.eq_false_iff]; intro ha
  rw [allN_iff.1 ha i h] at k; cases k
theorem map_snoc {f : α → β} {xs : List α} {i : Nat} {z : α} (h : i < xs.length) : (xs.take (i + 1)).map f = (xs.take i).map f ++ [f (xs.getD i z)] := by rw [take_snoc (z := z) h, List.map_append]; rfl
theorem filter_snoc_t {p : α → Bool} {xs : List α} {i : Nat} {z : α} (h : i < xs.length) (k : p (xs.getD i z) = true) : (xs.take (i + 1)).filter p = (xs.take i).filter p ++ [xs.getD i z] := by rw [take_snoc (z := z) h, List.filter_append, List.filter_cons_of_pos k]; rfl
theorem filter_snoc_f {p : α → Bool} {xs : List α} {i : Nat} {z : α} (h : i < xs.length) (k : p (xs.getD i z) = false) : (xs.take (i + 1)).filter p = (xs.take i).filter p := by rw [take_snoc (z := z) h, List.filter_append, List.filter_cons_of_neg (by rw [k]; decide)]; simp
theorem len_filter_take {p : α → Bool} {xs : List α} (i : Nat) : ((xs.take i).filter p).length ≤ xs.length := Nat.le_trans (List.length_filter_le _ _) (by simp; omega)
theorem len_take_le {xs : List α} (i : Nat) : (xs.take i).length ≤ xs.length := by simp; omega
end
def S_slices_Clone_S_int_int_ : Sum := { fid := 138, dom := [s34], cod := [s34], dp := true, fz := false, pre := fun x => (lenOK (α := Int)) x.1, g := fun x => (((idL (α := Int)) x.1), ()) }
def S_slices_Clone_S_int_int__tab : List (Nat × Sum) := []
theorem S_slices_Clone_S_int_int__ok : FnOK Try.prog 138 S_slices_Clone_S_int_int_ := by
  refine at_enter 8 (fun x => ⟨[(0, aF (.int 3) x.1)], []⟩) Try.func138 rfl (by kernel_rfl) (fun x => rfl) ?_
  rintro w0 Z0 ⟨x0, u⟩ a w
  revert x0
  intro (x0 : (List Int)) hpre hlens h
  replace h : At w0 Z0 [] 8 ⟨[(0, aF (.int 3) x0)], []⟩ a w := h
  replace hpre : (lenOK (α := Int)) x0 := hpre
  have hl1 : List.length x0 ≤ 9223372036854775807 := hlens.1.1
  have hT : TabOK Try.prog S_slices_Clone_S_int_int__tab := .nil
  have hp : List.length x0 ≤ 1073741824 := hpre
  refine wp_seq ?_
  refine at_regq (T := S_slices_Clone_S_int_int__tab) [] { ts := [0, 2], os := [] } [] gamOK hT h (by kernel_rfl) trivial ?_
  intro a w h
  refine then_normal ?_
  refine wp_seq ?_
  refine wp_seq ?_
  refine at_regq (T := S_slices_Clone_S_int_int__tab) [] { ts := [0, 2, 4], os := [] } [] gamOK hT h (by kernel_rfl) trivial ?_
  intro a w h
  refine then_normal ?_
  refine at_nil (List.length x0) h (by kernel_rfl) (fun h1 => ?_) ?_
  · skip
    refine wp_seq ?_
    refine at_regq (T := S_slices_Clone_S_int_int__tab) [] { ts := [0, 2], os := [] } [] gamOK hT h (by kernel_rfl) trivial ?_
    intro a w h
    refine then_normal ?_
    refine wp_ret ?_
    refine then_ret ?_
    exact at_return (S := S_slices_Clone_S_int_int_) (x := (x0, ())) (([] : List Int), ()) [] h (by kernel_rfl) trivial (congrArg (fun z => (z, ())) (show (([] : List Int)) = (idL (α := Int)) x0 from by (show [] = x0; exact (List.eq_nil_of_length_eq_zero h1).symm)))
  · skip
    refine wp_skip ?_
    refine then_normal ?_
    refine wp_seq ?_
    refine at_regq (T := S_slices_Clone_S_int_int__tab) [{ ids := [1] }, {}, { ids := [2] }] { ts := [2], os := [2] } [(List.length ([] : List Int) + List.length x0) * 8 ≤ 140737488355328] gamOK hT h (by kernel_rfl) ⟨(by first | omega | (simp only [List.length_append, List.length_cons, List.length_nil, List.length_set, List.length_take, List.length_drop, List.length_replicate, List.length_map, Nat.min_def]; omega) | (simp; done) | (simp; omega) | done), trivial⟩ ?_
    intro a w h
    refine then_normal ?_
    refine wp_ret ?_
    exact at_return (S := S_slices_Clone_S_int_int_) (x := (x0, ())) ((([] : List Int) ++ x0), ()) [] h (by kernel_rfl) trivial (congrArg (fun z => (z, ())) (show ((([] : List Int) ++ x0)) = (idL (α := Int)) x0 from by (show [] ++ x0 = x0; rfl)))

def S_impl_InRange : Sum := { fid := 103, dom := [(.int 3), (.int 3), (.int 3)], cod := [(.bool 4)], dp := true, fz := false, pre := fun x => True, g := fun x => ((inR x.1 x.2.1 x.2.2.1), ()) }
def S_impl_InRange_tab : List (Nat × Sum) := []
theorem S_impl_InRange_ok : FnOK Try.prog 103 S_impl_InRange := by
  refine at_enter 15 (fun x => ⟨[(0, aI x.1), (1, aI x.2.1), (2, aI x.2.2.1)], []⟩) Try.func103 rfl (by kernel_rfl) (fun x => rfl) ?_
  rintro w0 Z0 ⟨x0, x1, x2, u⟩ a w
  revert x0 x1 x2
  intro (x0 : Int) (x1 : Int) (x2 : Int) hpre hlens h
  replace h : At w0 Z0 [] 15 ⟨[(0, aI x0), (1, aI x1), (2, aI x2)], []⟩ a w := h
  have hT : TabOK Try.prog S_impl_InRange_tab := .nil
  refine wp_seq ?_
  refine at_regq (T := S_impl_InRange_tab) [] { ts := [0, 1, 2, 6], os := [] } [] gamOK hT h (by kernel_rfl) trivial ?_
  intro a w h
  refine then_normal ?_
  refine wp_seq ?_
  by_cases h1 : x1 ≤ x0
  · skip
    refine at_regq (T := S_impl_InRange_tab) [{}, {}, { hint := some (aB true) }] { ts := [6], os := [] } [(AV.p (.c (.v (.bool (decide (x1 ≤ x0))))) = AV.p (.c (.v (.bool true))))] gamOK hT h (by kernel_rfl) ⟨hint_bool (decide_eq_true h1), trivial⟩ ?_
    intro a w h
    refine then_normal ?_
    refine wp_ret ?_
    exact at_return (S := S_impl_InRange) (x := (x0, x1, x2, ())) (decide (x0 ≤ x2), ()) [] h (by kernel_rfl) trivial (congrArg (fun z => (z, ())) (show (decide (x0 ≤ x2)) = inR x0 x1 x2 from by (unfold inR; simp [*]; done)))
  · skip
    refine at_regq (T := S_impl_InRange_tab) [{}, {}, { hint := some (aB false) }] { ts := [6], os := [] } [(AV.p (.c (.v (.bool (decide (x1 ≤ x0))))) = AV.p (.c (.v (.bool false))))] gamOK hT h (by kernel_rfl) ⟨hint_bool (decide_eq_false h1), trivial⟩ ?_
    intro a w h
    refine then_normal ?_
    refine wp_ret ?_
    exact at_return (S := S_impl_InRange) (x := (x0, x1, x2, ())) (false, ()) [] h (by kernel_rfl) trivial (congrArg (fun z => (z, ())) (show (false) = inR x0 x1 x2 from by (unfold inR; simp [*]; done)))

def S_spec_l1In : Sum := { fid := 135, dom := [(.int 3), (.int 3), (.int 3)], cod := [(.bool 4)], dp := true, fz := false, pre := fun x => True, g := fun x => ((inR x.1 x.2.1 x.2.2.1), ()) }
def S_spec_l1In_tab : List (Nat × Sum) := []
theorem S_spec_l1In_ok : FnOK Try.prog 135 S_spec_l1In := by
  refine at_enter 15 (fun x => ⟨[(0, aI x.1), (1, aI x.2.1), (2, aI x.2.2.1)], []⟩) Try.func135 rfl (by kernel_rfl) (fun x => rfl) ?_
  rintro w0 Z0 ⟨x0, x1, x2, u⟩ a w
  revert x0 x1 x2
  intro (x0 : Int) (x1 : Int) (x2 : Int) hpre hlens h
  replace h : At w0 Z0 [] 15 ⟨[(0, aI x0), (1, aI x1), (2, aI x2)], []⟩ a w := h
  have hT : TabOK Try.prog S_spec_l1In_tab := .nil
  refine wp_seq ?_
  refine at_regq (T := S_spec_l1In_tab) [] { ts := [0, 1, 2, 6], os := [] } [] gamOK hT h (by kernel_rfl) trivial ?_
  intro a w h
  refine then_normal ?_
  refine wp_seq ?_
  by_cases h1 : x0 ≥ x1
  · skip
    refine at_regq (T := S_spec_l1In_tab) [{}, {}, { hint := some (aB true) }] { ts := [6], os := [] } [(AV.p (.c (.v (.bool (decide (x0 ≥ x1))))) = AV.p (.c (.v (.bool true))))] gamOK hT h (by kernel_rfl) ⟨hint_bool (decide_eq_true h1), trivial⟩ ?_
    intro a w h
    refine then_normal ?_
    refine wp_ret ?_
    exact at_return (S := S_spec_l1In) (x := (x0, x1, x2, ())) (decide (x0 ≤ x2), ()) [] h (by kernel_rfl) trivial (congrArg (fun z => (z, ())) (show (decide (x0 ≤ x2)) = inR x0 x1 x2 from by (unfold inR; first | (simp only [ge_iff_le] at *; simp [*]; done) | (rw [decide_eq_false]; omega))))
  · skip
    refine at_regq (T := S_spec_l1In_tab) [{}, {}, { hint := some (aB false) }] { ts := [6], os := [] } [(AV.p (.c (.v (.bool (decide (x0 ≥ x1))))) = AV.p (.c (.v (.bool false))))] gamOK hT h (by kernel_rfl) ⟨hint_bool (decide_eq_false h1), trivial⟩ ?_
    intro a w h
    refine then_normal ?_
    refine wp_ret ?_
    exact at_return (S := S_spec_l1In) (x := (x0, x1, x2, ())) (false, ()) [] h (by kernel_rfl) trivial (congrArg (fun z => (z, ())) (show (false) = inR x0 x1 x2 from by (unfold inR; first | (simp only [ge_iff_le] at *; simp [*]; done) | (rw [decide_eq_false]; omega))))

def isKey (x0 : Int) : Bool := (inR x0 1 2147483646)
def S_impl_IsValidKey : Sum := { fid := 164, dom := [(.int 3)], cod := [(.bool 4)], dp := true, fz := false, pre := fun x => True, g := fun x => ((isKey x.1), ()) }
def S_impl_IsValidKey_tab : List (Nat × Sum) := [(103, S_impl_InRange)]
theorem S_impl_IsValidKey_ok : FnOK Try.prog 164 S_impl_IsValidKey := by
  refine at_enter 5 (fun x => ⟨[(0, aI x.1)], []⟩) Try.func164 rfl (by kernel_rfl) (fun x => rfl) ?_
  rintro w0 Z0 ⟨x0, u⟩ a w
  revert x0
  intro (x0 : Int) hpre hlens h
  replace h : At w0 Z0 [] 5 ⟨[(0, aI x0)], []⟩ a w := h
  have hT : TabOK Try.prog S_impl_IsValidKey_tab := (.cons S_impl_InRange_ok .nil)
  refine wp_seq ?_
  refine at_regq (T := S_impl_IsValidKey_tab) [] { ts := [0, 2], os := [] } [] gamOK hT h (by kernel_rfl) trivial ?_
  intro a w h
  refine then_normal ?_
  refine wp_seq ?_
  refine at_regq (T := S_impl_IsValidKey_tab) [] { ts := [2], os := [] } [True] gamOK hT h (by kernel_rfl) ⟨trivial, trivial⟩ ?_
  intro a w h
  refine then_normal ?_
  refine wp_ret ?_
  exact at_return (S := S_impl_IsValidKey) (x := (x0, ())) ((inR x0 1 2147483646), ()) [] h (by kernel_rfl) trivial (congrArg (fun z => (z, ())) (show ((inR x0 1 2147483646)) = isKey x0 from by rfl))
theorem isKey_t {x : Int} (h : isKey x = true) : 1 ≤ x ∧ x ≤ 2147483646 := inR_t h

def S_spec_IsValidKey : Sum := { fid := 161, dom := [(.int 3)], cod := [(.bool 4)], dp := true, fz := false, pre := fun x => True, g := fun x => ((isKey x.1), ()) }
def S_spec_IsValidKey_tab : List (Nat × Sum) := [(135, S_spec_l1In)]
theorem S_spec_IsValidKey_ok : FnOK Try.prog 161 S_spec_IsValidKey := by
  refine at_enter 5 (fun x => ⟨[(0, aI x.1)], []⟩) Try.func161 rfl (by kernel_rfl) (fun x => rfl) ?_
  rintro w0 Z0 ⟨x0, u⟩ a w
  revert x0
  intro (x0 : Int) hpre hlens h
  replace h : At w0 Z0 [] 5 ⟨[(0, aI x0)], []⟩ a w := h
  have hT : TabOK Try.prog S_spec_IsValidKey_tab := (.cons S_spec_l1In_ok .nil)
  refine wp_seq ?_
  refine at_regq (T := S_spec_IsValidKey_tab) [] { ts := [0, 2], os := [] } [] gamOK hT h (by kernel_rfl) trivial ?_
  intro a w h
  refine then_normal ?_
  refine wp_seq ?_
  refine at_regq (T := S_spec_IsValidKey_tab) [] { ts := [2], os := [] } [True] gamOK hT h (by kernel_rfl) ⟨trivial, trivial⟩ ?_
  intro a w h
  refine then_normal ?_
  refine wp_ret ?_
  exact at_return (S := S_spec_IsValidKey) (x := (x0, ())) ((inR x0 1 2147483646), ()) [] h (by kernel_rfl) trivial (congrArg (fun z => (z, ())) (show ((inR x0 1 2147483646)) = isKey x0 from by first | rfl | (unfold isKey; rfl; done) | (unfold isKey; simp_all)))

def S_laws_eqIntS : Sum := { fid := 35, dom := [s34, s34], cod := [(.bool 4)], dp := true, fz := false, pre := fun x => True, g := fun x => (((Sh.eqB s34) x.1 x.2.1), ()) }
def S_laws_eqIntS_tab : List (Nat × Sum) := []
theorem S_laws_eqIntS_ok : FnOK Try.prog 35 S_laws_eqIntS := by
  refine at_enter 26 (fun x => ⟨[(0, aF (.int 3) x.1), (1, aF (.int 3) x.2.1)], []⟩) Try.func35 rfl (by kernel_rfl) (fun x => rfl) ?_
  rintro w0 Z0 ⟨x0, x1, u⟩ a w
  revert x0 x1
  intro (x0 : (List Int)) (x1 : (List Int)) hpre hlens h
  replace h : At w0 Z0 [] 26 ⟨[(0, aF (.int 3) x0), (1, aF (.int 3) x1)], []⟩ a w := h
  have hl1 : List.length x0 ≤ 9223372036854775807 := hlens.1.1
  have hl2 : List.length x1 ≤ 9223372036854775807 := hlens.2.1.1
  have hT : TabOK Try.prog S_laws_eqIntS_tab := .nil
  refine wp_seq ?_
  refine at_regq (T := S_laws_eqIntS_tab) [] { ts := [0, 1, 4], os := [] } [] gamOK hT h (by kernel_rfl) trivial ?_
  intro a w h
  refine then_normal ?_
  refine wp_seq ?_
  refine wp_seq ?_
  refine at_regq (T := S_laws_eqIntS_tab) [] { ts := [0, 1, 4, 10], os := [] } [] gamOK hT h (by kernel_rfl) trivial ?_
  intro a w h
  refine then_normal ?_
  refine at_test (!decide (((List.length x0 : Nat) : Int) = ((List.length x1 : Nat) : Int))) h (by kernel_rfl) (fun h1 => ?_) (fun h1 => ?_)
  · replace h1 : ¬ (((List.length x0 : Nat) : Int) = ((List.length x1 : Nat) : Int)) := by simpa using h1
    refine wp_seq ?_
    refine at_regq (T := S_laws_eqIntS_tab) [] { ts := [0, 1, 4], os := [] } [] gamOK hT h (by kernel_rfl) trivial ?_
    intro a w h
    refine then_normal ?_
    refine wp_ret ?_
    refine then_ret ?_
    exact at_return (S := S_laws_eqIntS) (x := (x0, x1, ())) (false, ()) [] h (by kernel_rfl) trivial (congrArg (fun z => (z, ())) (show (false) = (Sh.eqB s34) x0 x1 from by exact (Sh.eqB_ne (fun e => h1 (by rw [e]))).symm))
  · replace h1 : ((List.length x0 : Nat) : Int) = ((List.length x1 : Nat) : Int) := by simpa using h1
    refine wp_skip ?_
    refine then_normal ?_
    refine wp_seq ?_
    refine wp_seq ?_
    refine at_regq (T := S_laws_eqIntS_tab) [] { ts := [0, 1, 4, 5], os := [] } [] gamOK hT h (by kernel_rfl) trivial ?_
    intro a w h
    refine then_normal ?_
    refine wp_block ?_
    replace h := at_out (σ' := ⟨[(0, aF (.int 3) x0), (1, aF (.int 3) x1), (4, aB false), (5, aI 0)], []⟩) { ts := [0, 1, 4, 5], os := [] } h (by kernel_rfl)
    refine at_loop (fun i : Nat => (⟨[(0, aF (.int 3) x0), (1, aF (.int 3) x1), (4, aB false), (5, aI ((i : Nat) : Int))], []⟩ : St)) (fun i => (i ≤ List.length x0 ∧ x0.take i = x1.take i)) (fun i => List.length x0 - i) (0) h (st_congr1 (fun (d0 : Int) => (⟨[(0, aF (.int 3) x0), (1, aF (.int 3) x1), (4, aB false), (5, aI d0)], []⟩ : St)) (show (0 : Int) = (((0) : Nat) : Int) from by first | with_reducible rfl | (rfl) | rfl)) (by exact ⟨Nat.zero_le _, rfl⟩) ?_
    intro i a w hok0 h
    refine wp_seq ?_
    refine wp_seq ?_
    refine at_reg (T := S_laws_eqIntS_tab) [] { ts := [0, 1, 4, 5, 14], os := [] } ⟨[(0, aF (.int 3) x0), (1, aF (.int 3) x1), (4, aB false), (5, aI ((i : Nat) : Int)), (14, aB (decide (((i : Nat) : Int) < ((List.length x0 : Nat) : Int))))], []⟩ [] gamOK hT h (by kernel_rfl) trivial ?_
    intro a w h
    refine then_normal ?_
    refine at_test (decide (((i : Nat) : Int) < ((List.length x0 : Nat) : Int))) h (by kernel_rfl) (fun h2 => ?_) (fun h2 => ?_)
    · replace h2 : ((i : Nat) : Int) < ((List.length x0 : Nat) : Int) := of_decide_eq_true h2
      refine wp_skip ?_
      refine then_normal ?_
      refine wp_seq ?_
      refine wp_block ?_
      refine wp_seq ?_
      refine at_anyq (T := S_laws_eqIntS_tab) [{}, {}, {}, {}, {}, {}, {}, {}, {}] { ts := [0, 1, 4, 5, 25], os := [] } [(0 : Int) ≤ ((i : Nat) : Int) ∧ ((i : Nat) : Int) < ((List.length x0 : Nat) : Int), (0 : Int) ≤ ((i : Nat) : Int) ∧ ((i : Nat) : Int) < ((List.length x1 : Nat) : Int)] gamOK hT mixed h (by kernel_rfl) ⟨(by refine ⟨?_, ?_⟩ <;> (first | omega | (simp only [List.length_append, List.length_cons, List.length_nil, List.length_set, List.length_take, List.length_drop, List.length_replicate, List.length_map, Nat.min_def]; omega) | (simp; done) | (simp; omega) | done)), (by refine ⟨?_, ?_⟩ <;> (first | omega | (simp only [List.length_append, List.length_cons, List.length_nil, List.length_set, List.length_take, List.length_drop, List.length_replicate, List.length_map, Nat.min_def]; omega) | (simp; done) | (simp; omega) | done)), trivial⟩ ?_
      intro a w h
      refine then_normal ?_
      refine at_test (!decide ((x0.getD i 0) = (x1.getD i 0))) h (by kernel_rfl) (fun h3 => ?_) (fun h3 => ?_)
      · replace h3 : ¬ ((x0.getD i 0) = (x1.getD i 0)) := by simpa using h3
        refine wp_seq ?_
        refine at_regq (T := S_laws_eqIntS_tab) [] { ts := [0, 1, 4, 5], os := [] } [] gamOK hT h (by kernel_rfl) trivial ?_
        intro a w h
        refine then_normal ?_
        refine wp_ret ?_
        refine in_ret ?_
        refine then_ret ?_
        refine then_ret ?_
        refine in_ret ?_
        refine then_ret ?_
        exact at_return (S := S_laws_eqIntS) (x := (x0, x1, ())) (false, ()) [] h (by kernel_rfl) trivial (congrArg (fun z => (z, ())) (show (false) = (Sh.eqB s34) x0 x1 from by exact (Sh.eqB_ne (s := s34) (fun e => h3 (by rw [e]))).symm))
      · replace h3 : (x0.getD i 0) = (x1.getD i 0) := by simpa using h3
        refine wp_skip ?_
        refine in_normal ?_
        refine then_normal ?_
        refine at_regq (T := S_laws_eqIntS_tab) [{}, { nw := true }] { ts := [0, 1, 4, 5], os := [] } [I64 (((i : Nat) : Int) + 1)] gamOK hT h (by kernel_rfl) ⟨⟨by first | omega | (simp only [List.length_append, List.length_cons, List.length_nil, List.length_set, List.length_take, List.length_drop, List.length_replicate, List.length_map, Nat.min_def]; omega) | (simp; done) | (simp; omega) | done, by first | omega | (simp only [List.length_append, List.length_cons, List.length_nil, List.length_set, List.length_take, List.length_drop, List.length_replicate, List.length_map, Nat.min_def]; omega) | (simp; done) | (simp; omega) | done⟩, trivial⟩ ?_
        intro a w h
        replace h := at_out (σ' := ⟨[(0, aF (.int 3) x0), (1, aF (.int 3) x1), (4, aB false), (5, aI (((i : Nat) : Int) + 1))], []⟩) { ts := [0, 1, 4, 5], os := [] } h (by kernel_rfl)
        exact ⟨i + 1, at_eq h (st_congr1 (fun (d0 : Int) => (⟨[(0, aF (.int 3) x0), (1, aF (.int 3) x1), (4, aB false), (5, aI d0)], []⟩ : St)) (show (((i : Nat) : Int) + 1 : Int) = (((i + 1) : Nat) : Int) from by first | with_reducible rfl | (omega) | rfl)), (by exact ⟨by omega, eqTo_step (z := 0) (by omega) (by omega) hok0.2 h3⟩), (by omega)⟩
    · replace h2 : ¬ (((i : Nat) : Int) < ((List.length x0 : Nat) : Int)) := of_decide_eq_false h2
      refine wp_exit ?_
      refine then_exit ?_
      refine then_exit ?_
      refine in_hit ?_
      refine then_normal ?_
      refine wp_seq ?_
      refine at_regq (T := S_laws_eqIntS_tab) [] { ts := [4], os := [] } [] gamOK hT h (by kernel_rfl) trivial ?_
      intro a w h
      refine then_normal ?_
      refine wp_ret ?_
      exact at_return (S := S_laws_eqIntS) (x := (x0, x1, ())) (true, ()) [] h (by kernel_rfl) trivial (congrArg (fun z => (z, ())) (show (true) = (Sh.eqB s34) x0 x1 from by (have e := hok0.2; rw [take_all (by omega), take_all (by omega)] at e; exact ((Sh.eqB_iff s34).2 e).symm)))

def S_laws_eqGroup : Sum := { fid := 50, dom := [s72, s72], cod := [(.bool 4)], dp := true, fz := false, pre := fun x => True, g := fun x => (((Sh.eqB s72) x.1 x.2.1), ()) }
def S_laws_eqGroup_tab : List (Nat × Sum) := [(35, S_laws_eqIntS)]
theorem S_laws_eqGroup_ok : FnOK Try.prog 50 S_laws_eqGroup := by
  refine at_enter 21 (fun x => ⟨[(0, aG [cI x.1.1, cI x.1.2.1, .ro (.int 3) x.1.2.2]), (1, aG [cI x.2.1.1, cI x.2.1.2.1, .ro (.int 3) x.2.1.2.2])], []⟩) Try.func50 rfl (by kernel_rfl) (fun x => rfl) ?_
  rintro w0 Z0 ⟨x0, x1, u⟩ a w
  revert x0 x1
  intro (x0 : T72) (x1 : T72) hpre hlens h
  replace h : At w0 Z0 [] 21 ⟨[(0, aG [cI x0.1, cI x0.2.1, .ro (.int 3) x0.2.2]), (1, aG [cI x1.1, cI x1.2.1, .ro (.int 3) x1.2.2])], []⟩ a w := h
  have hl1 : List.length x0.2.2 ≤ 9223372036854775807 := hlens.1.2.2.1
  have hl2 : List.length x1.2.2 ≤ 9223372036854775807 := hlens.2.1.2.2.1
  have hT : TabOK Try.prog S_laws_eqGroup_tab := (.cons S_laws_eqIntS_ok .nil)
  refine wp_seq ?_
  refine at_regq (T := S_laws_eqGroup_tab) [{ ids := [1] }, { ids := [2] }] { ts := [2, 3, 4], os := [1, 2] } [] gamOK hT h (by kernel_rfl) trivial ?_
  intro a w h
  refine then_normal ?_
  refine wp_seq ?_
  refine wp_seq ?_
  refine at_regq (T := S_laws_eqGroup_tab) [] { ts := [2, 3, 4, 9], os := [1, 2] } [] gamOK hT h (by kernel_rfl) trivial ?_
  intro a w h
  refine then_normal ?_
  refine at_test (!decide (x0.1 = x1.1)) h (by kernel_rfl) (fun h1 => ?_) (fun h1 => ?_)
  · replace h1 : ¬ (x0.1 = x1.1) := by simpa using h1
    refine wp_seq ?_
    refine at_regq (T := S_laws_eqGroup_tab) [] { ts := [2, 3, 4], os := [1, 2] } [] gamOK hT h (by kernel_rfl) trivial ?_
    intro a w h
    refine then_normal ?_
    refine wp_ret ?_
    refine then_ret ?_
    exact at_return (S := S_laws_eqGroup) (x := (x0, x1, ())) (false, ()) [] h (by kernel_rfl) trivial (congrArg (fun z => (z, ())) (show (false) = (Sh.eqB s72) x0 x1 from by exact (Sh.eqB_ne (s := s72) (fun e => h1 (congrArg (fun (y : T72) => y.1) e))).symm))
  · replace h1 : x0.1 = x1.1 := by simpa using h1
    refine wp_skip ?_
    refine then_normal ?_
    refine wp_seq ?_
    refine wp_seq ?_
    refine at_regq (T := S_laws_eqGroup_tab) [] { ts := [2, 3, 4, 14], os := [1, 2] } [] gamOK hT h (by kernel_rfl) trivial ?_
    intro a w h
    refine then_normal ?_
    refine at_test (!decide (x0.2.1 = x1.2.1)) h (by kernel_rfl) (fun h2 => ?_) (fun h2 => ?_)
    · replace h2 : ¬ (x0.2.1 = x1.2.1) := by simpa using h2
      refine wp_seq ?_
      refine at_reg (T := S_laws_eqGroup_tab) [] { ts := [2, 3, 4], os := [1, 2] } ⟨[(2, aP 1 0), (3, aP 2 0), (4, aB false)], [(1, oX 72 [cI x0.1, cI x0.2.1, .ro (.int 3) x0.2.2]), (2, oX 72 [cI x1.1, cI x1.2.1, .ro (.int 3) x1.2.2])]⟩ [] gamOK hT h (by kernel_rfl) trivial ?_
      intro a w h
      refine then_normal ?_
      refine wp_ret ?_
      refine then_ret ?_
      exact at_return (S := S_laws_eqGroup) (x := (x0, x1, ())) (false, ()) [] h (by kernel_rfl) trivial (congrArg (fun z => (z, ())) (show (false) = (Sh.eqB s72) x0 x1 from by exact (Sh.eqB_ne (s := s72) (fun e => h2 (congrArg (fun (y : T72) => y.2.1) e))).symm))
    · replace h2 : x0.2.1 = x1.2.1 := by simpa using h2
      refine wp_skip ?_
      refine then_normal ?_
      refine wp_seq ?_
      refine wp_seq ?_
      refine at_reg (T := S_laws_eqGroup_tab) [] { ts := [4, 20], os := [] } ⟨[(4, aB false), (20, aB (!((Sh.eqB s34) x0.2.2 x1.2.2)))], []⟩ [True] gamOK hT h (by kernel_rfl) ⟨trivial, trivial⟩ ?_
      intro a w h
      refine then_normal ?_
      refine at_test (!((Sh.eqB s34) x0.2.2 x1.2.2)) h (by kernel_rfl) (fun h3 => ?_) (fun h3 => ?_)
      · replace h3 : ((Sh.eqB s34) x0.2.2 x1.2.2) = false := notT h3
        refine wp_seq ?_
        refine at_regq (T := S_laws_eqGroup_tab) [] { ts := [4], os := [] } [] gamOK hT h (by kernel_rfl) trivial ?_
        intro a w h
        refine then_normal ?_
        refine wp_ret ?_
        refine then_ret ?_
        exact at_return (S := S_laws_eqGroup) (x := (x0, x1, ())) (false, ()) [] h (by kernel_rfl) trivial (congrArg (fun z => (z, ())) (show (false) = (Sh.eqB s72) x0 x1 from by exact (Sh.eqB_ne (s := s72) (fun e => Sh.of_eqB_ne h3 (congrArg (fun (y : T72) => y.2.2) e))).symm))
      · replace h3 : ((Sh.eqB s34) x0.2.2 x1.2.2) = true := notF h3
        refine wp_skip ?_
        refine then_normal ?_
        refine wp_seq ?_
        refine at_regq (T := S_laws_eqGroup_tab) [] { ts := [4], os := [] } [] gamOK hT h (by kernel_rfl) trivial ?_
        intro a w h
        refine then_normal ?_
        refine wp_ret ?_
        exact at_return (S := S_laws_eqGroup) (x := (x0, x1, ())) (true, ()) [] h (by kernel_rfl) trivial (congrArg (fun z => (z, ())) (show (true) = (Sh.eqB s72) x0 x1 from by exact ((Sh.eqB_iff s72).2 (Prod.ext h1 (Prod.ext h2 (Sh.of_eqB h3)))).symm))

def S_laws_heldIntS : Sum := { fid := 64, dom := [s34, (.int 3)], cod := [(.int 3)], dp := true, fz := false, pre := fun x => (pMk s34) x.1 x.2.1, g := fun x => (((heldD s34) x.1 x.2.1), ()) }
def S_laws_heldIntS_tab : List (Nat × Sum) := []
theorem S_laws_heldIntS_ok : FnOK Try.prog 64 S_laws_heldIntS := by
  refine at_enter 21 (fun x => ⟨[(0, aF (.int 3) x.1), (1, aI x.2.1)], []⟩) Try.func64 rfl (by kernel_rfl) (fun x => rfl) ?_
  rintro w0 Z0 ⟨x0, x1, u⟩ a w
  revert x0 x1
  intro (x0 : (List Int)) (x1 : Int) hpre hlens h
  replace h : At w0 Z0 [] 21 ⟨[(0, aF (.int 3) x0), (1, aI x1)], []⟩ a w := h
  replace hpre : (pMk s34) x0 x1 := hpre
  have hl1 : List.length x0 ≤ 9223372036854775807 := hlens.1.1
  have hT : TabOK Try.prog S_laws_heldIntS_tab := .nil
  have hp : 0 ≤ x1 ∧ x1 + ((Sh.ct s34 x0 : Nat) : Int) ≤ 4611686018427387904 := hpre
  have hct0 : Sh.ct s34 x0 = ctL (Sh.ct (.int 3)) x0 := rfl
  refine wp_seq ?_
  refine at_regq (T := S_laws_heldIntS_tab) [] { ts := [0, 1, 4], os := [] } [] gamOK hT h (by kernel_rfl) trivial ?_
  intro a w h
  refine then_normal ?_
  refine wp_seq ?_
  refine wp_seq ?_
  refine at_regq (T := S_laws_heldIntS_tab) [] { ts := [0, 1, 4, 5], os := [] } [] gamOK hT h (by kernel_rfl) trivial ?_
  intro a w h
  refine then_normal ?_
  refine wp_block ?_
  replace h := at_out (σ' := ⟨[(0, aF (.int 3) x0), (1, aI x1), (4, aI 0), (5, aI 0)], []⟩) { ts := [0, 1, 4, 5], os := [] } h (by kernel_rfl)
  refine at_loop (fun i : Nat => (⟨[(0, aF (.int 3) x0), (1, aI (x1 + ((ctL (Sh.ct (.int 3)) (List.take i x0) : Nat) : Int))), (4, aI 0), (5, aI ((i : Nat) : Int))], []⟩ : St)) (fun i => (i ≤ List.length x0 ∧ mkL (Sh.mk (.int 3)) (Sh.ct (.int 3)) x1 (x0.take i) = x0.take i)) (fun i => List.length x0 - i) (0) h (st_congr2 (fun (d0 : Int) (d1 : Int) => (⟨[(0, aF (.int 3) x0), (1, aI d0), (4, aI 0), (5, aI d1)], []⟩ : St)) (show (x1 : Int) = (x1 + ((ctL (Sh.ct (.int 3)) (List.take (0) x0) : Nat) : Int)) from by first | with_reducible rfl | (simp [ctL]) | rfl) (show (0 : Int) = (((0) : Nat) : Int) from by first | with_reducible rfl | (simp [ctL]) | rfl)) (by exact ⟨Nat.zero_le _, by simp [mkL]⟩) ?_
  intro i a w hok0 h
  refine wp_seq ?_
  refine wp_seq ?_
  refine at_regq (T := S_laws_heldIntS_tab) [] { ts := [0, 1, 4, 5, 9], os := [] } [] gamOK hT h (by kernel_rfl) trivial ?_
  intro a w h
  refine then_normal ?_
  refine at_test (decide (((i : Nat) : Int) < ((List.length x0 : Nat) : Int))) h (by kernel_rfl) (fun h1 => ?_) (fun h1 => ?_)
  · replace h1 : ((i : Nat) : Int) < ((List.length x0 : Nat) : Int) := of_decide_eq_true h1
    have hat := ctL_at_le (c := Sh.ct (.int 3)) (xs := x0) (z := 0) (i := i) (by omega)
    have hsu := ctL_take_succ (c := Sh.ct (.int 3)) (xs := x0) (z := 0) (i := i) (by omega)
    have hci : Sh.ct (.int 3) (x0.getD i 0) = 1 := rfl
    refine wp_skip ?_
    refine then_normal ?_
    refine wp_seq ?_
    refine wp_block ?_
    refine wp_seq ?_
    refine wp_seq ?_
    refine at_reg (T := S_laws_heldIntS_tab) [] { ts := [0, 1, 4, 5, 17], os := [] } ⟨[(0, aF (.int 3) x0), (1, aI (x1 + ((ctL (Sh.ct (.int 3)) (List.take i x0) : Nat) : Int))), (4, aI 0), (5, aI ((i : Nat) : Int)), (17, aB (!decide ((x0.getD i 0) = (x1 + ((ctL (Sh.ct (.int 3)) (List.take i x0) : Nat) : Int)))))], []⟩ [(0 : Int) ≤ ((i : Nat) : Int) ∧ ((i : Nat) : Int) < ((List.length x0 : Nat) : Int)] gamOK hT h (by kernel_rfl) ⟨(by refine ⟨?_, ?_⟩ <;> (first | omega | (simp only [List.length_append, List.length_cons, List.length_nil, List.length_set, List.length_take, List.length_drop, List.length_replicate, List.length_map, Nat.min_def]; omega) | (simp; done) | (simp; omega) | done)), trivial⟩ ?_
    intro a w h
    refine then_normal ?_
    refine at_test (!decide ((x0.getD i 0) = (x1 + ((ctL (Sh.ct (.int 3)) (List.take i x0) : Nat) : Int)))) h (by kernel_rfl) (fun h2 => ?_) (fun h2 => ?_)
    · replace h2 : ¬ ((x0.getD i 0) = (x1 + ((ctL (Sh.ct (.int 3)) (List.take i x0) : Nat) : Int))) := by simpa using h2
      refine wp_seq ?_
      refine at_regq (T := S_laws_heldIntS_tab) [] { ts := [0, 1, 4, 5], os := [] } [] gamOK hT h (by kernel_rfl) trivial ?_
      intro a w h
      refine then_normal ?_
      refine wp_ret ?_
      refine then_ret ?_
      refine in_ret ?_
      refine then_ret ?_
      refine then_ret ?_
      refine in_ret ?_
      refine then_ret ?_
      exact at_return (S := S_laws_heldIntS) (x := (x0, x1, ())) ((-1), ()) [] h (by kernel_rfl) trivial (congrArg (fun z => (z, ())) (show ((-1)) = (heldD s34) x0 x1 from by refine (heldD_no (s := s34) (fun e => ?_)).symm; have e2 : (x1 + ((ctL (Sh.ct (.int 3)) (List.take i x0) : Nat) : Int)) = (x0.getD i 0) := congrArg (fun (y : Int) => y) (mkL_get (z := 0) (i := i) e (by omega)); omega))
    · replace h2 : (x0.getD i 0) = (x1 + ((ctL (Sh.ct (.int 3)) (List.take i x0) : Nat) : Int)) := by simpa using h2
      refine wp_skip ?_
      refine then_normal ?_
      refine at_regq (T := S_laws_heldIntS_tab) [{}, { nw := true }] { ts := [0, 1, 4, 5], os := [] } [I64 ((x1 + ((ctL (Sh.ct (.int 3)) (List.take i x0) : Nat) : Int)) + 1)] gamOK hT h (by kernel_rfl) ⟨⟨by first | omega | (simp only [List.length_append, List.length_cons, List.length_nil, List.length_set, List.length_take, List.length_drop, List.length_replicate, List.length_map, Nat.min_def]; omega) | (simp; done) | (simp; omega) | done, by first | omega | (simp only [List.length_append, List.length_cons, List.length_nil, List.length_set, List.length_take, List.length_drop, List.length_replicate, List.length_map, Nat.min_def]; omega) | (simp; done) | (simp; omega) | done⟩, trivial⟩ ?_
      intro a w h
      refine in_normal ?_
      refine then_normal ?_
      refine at_regq (T := S_laws_heldIntS_tab) [{}, { nw := true }] { ts := [0, 1, 4, 5], os := [] } [I64 (((i : Nat) : Int) + 1)] gamOK hT h (by kernel_rfl) ⟨⟨by first | omega | (simp only [List.length_append, List.length_cons, List.length_nil, List.length_set, List.length_take, List.length_drop, List.length_replicate, List.length_map, Nat.min_def]; omega) | (simp; done) | (simp; omega) | done, by first | omega | (simp only [List.length_append, List.length_cons, List.length_nil, List.length_set, List.length_take, List.length_drop, List.length_replicate, List.length_map, Nat.min_def]; omega) | (simp; done) | (simp; omega) | done⟩, trivial⟩ ?_
      intro a w h
      replace h := at_out (σ' := ⟨[(0, aF (.int 3) x0), (1, aI ((x1 + ((ctL (Sh.ct (.int 3)) (List.take i x0) : Nat) : Int)) + 1)), (4, aI 0), (5, aI (((i : Nat) : Int) + 1))], []⟩) { ts := [0, 1, 4, 5], os := [] } h (by kernel_rfl)
      exact ⟨i + 1, at_eq h (st_congr2 (fun (d0 : Int) (d1 : Int) => (⟨[(0, aF (.int 3) x0), (1, aI d0), (4, aI 0), (5, aI d1)], []⟩ : St)) (show ((x1 + ((ctL (Sh.ct (.int 3)) (List.take i x0) : Nat) : Int)) + 1 : Int) = (x1 + ((ctL (Sh.ct (.int 3)) (List.take (i + 1) x0) : Nat) : Int)) from by first | with_reducible rfl | (omega) | rfl) (show (((i : Nat) : Int) + 1 : Int) = (((i + 1) : Nat) : Int) from by first | with_reducible rfl | (omega) | rfl)), (by exact ⟨by omega, mkL_step (z := 0) (by omega) hok0.2 (by show ((x1 + ((ctL (Sh.ct (.int 3)) (List.take i x0) : Nat) : Int)) : Int) = (x0.getD i 0); omega)⟩), (by omega)⟩
  · replace h1 : ¬ (((i : Nat) : Int) < ((List.length x0 : Nat) : Int)) := of_decide_eq_false h1
    refine wp_exit ?_
    refine then_exit ?_
    refine then_exit ?_
    refine in_hit ?_
    refine then_normal ?_
    refine wp_seq ?_
    refine at_reg (T := S_laws_heldIntS_tab) [] { ts := [4], os := [] } ⟨[(4, aI (x1 + ((ctL (Sh.ct (.int 3)) (List.take i x0) : Nat) : Int)))], []⟩ [] gamOK hT h (by kernel_rfl) trivial ?_
    intro a w h
    refine then_normal ?_
    refine wp_ret ?_
    exact at_return (S := S_laws_heldIntS) (x := (x0, x1, ())) ((x1 + ((ctL (Sh.ct (.int 3)) (List.take i x0) : Nat) : Int)), ()) [] h (by kernel_rfl) trivial (congrArg (fun z => (z, ())) (show ((x1 + ((ctL (Sh.ct (.int 3)) (List.take i x0) : Nat) : Int))) = (heldD s34) x0 x1 from by have e := hok0.2; rw [take_all (by omega)] at e; rw [heldD_pos (s := s34) e, hct0, take_all (by omega)]))

def S_laws_heldGroup : Sum := { fid := 52, dom := [s72, (.int 3)], cod := [(.int 3)], dp := true, fz := false, pre := fun x => (pMkT s72) x.1 x.2.1, g := fun x => (((heldDT s72) x.1 x.2.1), ()) }
def S_laws_heldGroup_tab : List (Nat × Sum) := [(64, S_laws_heldIntS)]
theorem S_laws_heldGroup_ok : FnOK Try.prog 52 S_laws_heldGroup := by
  refine at_enter 12 (fun x => ⟨[(0, aG [cI x.1.1, cI x.1.2.1, .ro (.int 3) x.1.2.2]), (1, aI x.2.1)], []⟩) Try.func52 rfl (by kernel_rfl) (fun x => rfl) ?_
  rintro w0 Z0 ⟨x0, x1, u⟩ a w
  revert x0 x1
  intro (x0 : T72) (x1 : Int) hpre hlens h
  replace h : At w0 Z0 [] 12 ⟨[(0, aG [cI x0.1, cI x0.2.1, .ro (.int 3) x0.2.2]), (1, aI x1)], []⟩ a w := h
  replace hpre : (pMkT s72) x0 x1 := hpre
  have hl1 : List.length x0.2.2 ≤ 9223372036854775807 := hlens.1.2.2.1
  have hT : TabOK Try.prog S_laws_heldGroup_tab := (.cons S_laws_heldIntS_ok .nil)
  have hp : 0 ≤ x1 ∧ x1 + ((Sh.ctT s72 x0 : Nat) : Int) ≤ 4611686018427387904 := hpre
  have hct0 : Sh.ctT s72 x0 = (0 + (0 + (Sh.ct s34 x0.2.2))) := rfl
  refine wp_seq ?_
  refine at_regq (T := S_laws_heldGroup_tab) [{ ids := [1] }] { ts := [1, 2, 4], os := [1] } [] gamOK hT h (by kernel_rfl) trivial ?_
  intro a w h
  refine then_normal ?_
  refine wp_seq ?_
  refine at_regq (T := S_laws_heldGroup_tab) [] { ts := [1, 4], os := [] } [(pMk s34) x0.2.2 x1] gamOK hT h (by kernel_rfl) ⟨(by (first | (show (0 : Int) ≤ _ ∧ _ + ((Sh.ct _ _ : Nat) : Int) ≤ (4611686018427387904 : Int); constructor <;> omega) | (show (0 : Int) ≤ _ ∧ _ + ((Sh.ctT _ _ : Nat) : Int) ≤ (4611686018427387904 : Int); constructor <;> omega))), trivial⟩ ?_
  intro a w h
  refine then_normal ?_
  refine wp_seq ?_
  refine wp_seq ?_
  refine at_regq (T := S_laws_heldGroup_tab) [] { ts := [1, 4, 10], os := [] } [] gamOK hT h (by kernel_rfl) trivial ?_
  intro a w h
  refine then_normal ?_
  refine at_test (decide (((heldD s34) x0.2.2 x1) < 0)) h (by kernel_rfl) (fun h1 => ?_) (fun h1 => ?_)
  · replace h1 : ((heldD s34) x0.2.2 x1) < 0 := of_decide_eq_true h1
    have hvh1 := heldD_neg (by omega) h1
    refine wp_seq ?_
    refine at_reg (T := S_laws_heldGroup_tab) [] { ts := [1, 4], os := [] } ⟨[(1, aI ((heldD s34) x0.2.2 x1)), (4, aI (-1))], []⟩ [] gamOK hT h (by kernel_rfl) trivial ?_
    intro a w h
    refine then_normal ?_
    refine wp_ret ?_
    refine then_ret ?_
    exact at_return (S := S_laws_heldGroup) (x := (x0, x1, ())) ((-1), ()) [] h (by kernel_rfl) trivial (congrArg (fun z => (z, ())) (show ((-1)) = (heldDT s72) x0 x1 from by refine (heldDT_no (s := s72) (fun e => ?_)).symm; have e2 : Sh.mk s34 x0.2.2 (x1 + ((0 : Nat) : Int) + ((0 : Nat) : Int)) = x0.2.2 := (congrArg (fun (y : T72) => y.2.2) e); exact hvh1 ((congrArg (fun k => Sh.mk s34 x0.2.2 k) (show (_ : Int) = x1 + ((0 : Nat) : Int) + ((0 : Nat) : Int) from by first | rfl | omega)).trans e2)))
  · replace h1 : ¬ (((heldD s34) x0.2.2 x1) < 0) := of_decide_eq_false h1
    have hvh1 := heldD_val h1
    refine wp_skip ?_
    refine then_normal ?_
    refine wp_seq ?_
    refine at_reg (T := S_laws_heldGroup_tab) [] { ts := [4], os := [] } ⟨[(4, aI ((heldD s34) x0.2.2 x1))], []⟩ [] gamOK hT h (by kernel_rfl) trivial ?_
    intro a w h
    refine then_normal ?_
    refine wp_ret ?_
    exact at_return (S := S_laws_heldGroup) (x := (x0, x1, ())) (((heldD s34) x0.2.2 x1), ()) [] h (by kernel_rfl) trivial (congrArg (fun z => (z, ())) (show (((heldD s34) x0.2.2 x1)) = (heldDT s72) x0 x1 from by rw [heldDT_pos (s := s72) (show Sh.mkT s72 x0 x1 = x0 from (Prod.ext rfl (Prod.ext rfl ((congrArg (fun k => Sh.mk s34 x0.2.2 k) (show (x1 + ((0 : Nat) : Int) + ((0 : Nat) : Int) : Int) = _ from by first | rfl | omega)).trans hvh1.1))))]; omega))

def S_laws_markIntS : Sum := { fid := 37, dom := [s34, (.int 3)], cod := [(.int 3)], dp := true, fz := false, pre := fun x => (pMk s34) x.1 x.2.1, g := fun x => (((mkK s34) x.1 x.2.1), ()), kinds := [.io, .rd], upd := fun x => ((Sh.mk s34) x.1 x.2.1, (x.2.1, ())) }
def S_laws_markIntS_tab : List (Nat × Sum) := []
theorem S_laws_markIntS_ok : FnOK Try.prog 37 S_laws_markIntS := by
  refine at_enterI 19 [1] [2] (fun us x => ⟨[(0, aS 1), (1, aI x.2.1)], [(1, oR (.int 3) x.1), (2, oP 1 (S_laws_markIntS.hd us 0))]⟩) Try.func37 rfl (by kernel_rfl) (fun us x => rfl) ?_
  rintro w0 Z0 us ⟨x0, x1, u⟩ L a w
  revert x0 x1
  intro (x0 : (List Int)) (x1 : Int) hio hpre hlens h
  replace h : At w0 Z0 L 19 ⟨[(0, aS 1), (1, aI x1)], [(1, oR (.int 3) x0), (2, oP 1 (S_laws_markIntS.hd us 0))]⟩ a w := h
  replace hpre : (pMk s34) x0 x1 := hpre
  have hl1 : List.length x0 ≤ 9223372036854775807 := hlens.1.1
  have hT : TabOK Try.prog S_laws_markIntS_tab := .nil
  have hp : 0 ≤ x1 ∧ x1 + ((Sh.ct s34 x0 : Nat) : Int) ≤ 4611686018427387904 := hpre
  have hct0 : Sh.ct s34 x0 = ctL (Sh.ct (.int 3)) x0 := rfl
  refine wp_seq ?_
  refine at_regq (T := S_laws_markIntS_tab) [] { ts := [0, 1, 4], os := [1, 2] } [] gamOK hT h (by kernel_rfl) trivial ?_
  intro a w h
  refine then_normal ?_
  refine wp_seq ?_
  refine wp_seq ?_
  refine at_regq (T := S_laws_markIntS_tab) [] { ts := [0, 1, 4, 5], os := [1, 2] } [] gamOK hT h (by kernel_rfl) trivial ?_
  intro a w h
  refine then_normal ?_
  refine wp_block ?_
  replace h := at_out (σ' := ⟨[(0, aS 1), (1, aI x1), (4, aI 0), (5, aI 0)], [(1, oR (.int 3) x0), (2, oP 1 (S_laws_markIntS.hd us 0))]⟩) { ts := [0, 1, 4, 5], os := [1, 2] } h (by kernel_rfl)
  refine at_loop (fun i : Nat => (⟨[(0, aS 1), (1, aI (x1 + ((ctL (Sh.ct (.int 3)) (List.take i x0) : Nat) : Int))), (4, aI 0), (5, aI ((i : Nat) : Int))], [(1, oR (.int 3) (mkAt (Sh.mk (.int 3)) (Sh.ct (.int 3)) x1 x0 i)), (2, oP 1 (S_laws_markIntS.hd us 0))]⟩ : St)) (fun i => i ≤ List.length x0) (fun i => List.length x0 - i) (0) h (st_congr3 (fun (d0 : List Int) (d1 : Int) (d2 : Int) => (⟨[(0, aS 1), (1, aI d1), (4, aI 0), (5, aI d2)], [(1, oR (.int 3) d0), (2, oP 1 (S_laws_markIntS.hd us 0))]⟩ : St)) (show (x0 : List Int) = (mkAt (Sh.mk (.int 3)) (Sh.ct (.int 3)) x1 x0 (0)) from by first | with_reducible rfl | (first | exact mkAt_zero.symm | simp [ctL]) | rfl) (show (x1 : Int) = (x1 + ((ctL (Sh.ct (.int 3)) (List.take (0) x0) : Nat) : Int)) from by first | with_reducible rfl | (first | exact mkAt_zero.symm | simp [ctL]) | rfl) (show (0 : Int) = (((0) : Nat) : Int) from by first | with_reducible rfl | (first | exact mkAt_zero.symm | simp [ctL]) | rfl)) (by omega) ?_
  intro i a w hok0 h
  refine wp_seq ?_
  refine wp_seq ?_
  refine at_regq (T := S_laws_markIntS_tab) [] { ts := [0, 1, 4, 5, 9], os := [1, 2] } [] gamOK hT h (by kernel_rfl) trivial ?_
  intro a w h
  refine then_normal ?_
  refine at_test (decide (((i : Nat) : Int) < ((List.length (mkAt (Sh.mk (.int 3)) (Sh.ct (.int 3)) x1 x0 i) : Nat) : Int))) h (by kernel_rfl) (fun h1 => ?_) (fun h1 => ?_)
  · replace h1 : ((i : Nat) : Int) < ((List.length (mkAt (Sh.mk (.int 3)) (Sh.ct (.int 3)) x1 x0 i) : Nat) : Int) := of_decide_eq_true h1
    have hml : List.length (mkAt (Sh.mk (.int 3)) (Sh.ct (.int 3)) x1 x0 i) = List.length x0 := mkAt_len
    rw [hml] at h1
    have hat := ctL_at_le (c := Sh.ct (.int 3)) (xs := x0) (z := 0) (i := i) (by omega)
    have hsu := ctL_take_succ (c := Sh.ct (.int 3)) (xs := x0) (z := 0) (i := i) (by omega)
    have hci : Sh.ct (.int 3) (x0.getD i 0) = 1 := rfl
    have hge : List.getD (mkAt (Sh.mk (.int 3)) (Sh.ct (.int 3)) x1 x0 i) i 0 = (x0.getD i 0) := mkAt_get (by omega)
    refine wp_skip ?_
    refine then_normal ?_
    refine wp_seq ?_
    refine wp_block ?_
    refine wp_seq ?_
    refine at_reg (T := S_laws_markIntS_tab) [] { ts := [0, 1, 4, 5], os := [1, 2] } ⟨[(0, aS 1), (1, aI (x1 + ((ctL (Sh.ct (.int 3)) (List.take i x0) : Nat) : Int))), (4, aI 0), (5, aI ((i : Nat) : Int))], [(1, oR (.int 3) (List.set (mkAt (Sh.mk (.int 3)) (Sh.ct (.int 3)) x1 x0 i) i (x1 + ((ctL (Sh.ct (.int 3)) (List.take i x0) : Nat) : Int)))), (2, oP 1 (S_laws_markIntS.hd us 0))]⟩ [(0 : Int) ≤ ((i : Nat) : Int) ∧ ((i : Nat) : Int) < ((List.length (mkAt (Sh.mk (.int 3)) (Sh.ct (.int 3)) x1 x0 i) : Nat) : Int), i < List.length (mkAt (Sh.mk (.int 3)) (Sh.ct (.int 3)) x1 x0 i)] gamOK hT h (by kernel_rfl) ⟨(by refine ⟨?_, ?_⟩ <;> (first | omega | ((try simp only [hge, mkK]); omega) | (simp only [List.length_append, List.length_cons, List.length_nil, List.length_set, List.length_take, List.length_drop, List.length_replicate, List.length_map, Nat.min_def, mkAt_len]; omega) | (simp; done) | (simp; omega))), (by first | omega | ((try simp only [hge, mkK]); omega) | (simp only [List.length_append, List.length_cons, List.length_nil, List.length_set, List.length_take, List.length_drop, List.length_replicate, List.length_map, Nat.min_def, mkAt_len]; omega) | (simp; done) | (simp; omega)), trivial⟩ ?_
    intro a w h
    refine then_normal ?_
    refine at_regq (T := S_laws_markIntS_tab) [{}, { nw := true }] { ts := [0, 1, 4, 5], os := [1, 2] } [I64 ((x1 + ((ctL (Sh.ct (.int 3)) (List.take i x0) : Nat) : Int)) + 1)] gamOK hT h (by kernel_rfl) ⟨⟨by first | omega | ((try simp only [hge, mkK]); omega) | (simp only [List.length_append, List.length_cons, List.length_nil, List.length_set, List.length_take, List.length_drop, List.length_replicate, List.length_map, Nat.min_def, mkAt_len]; omega) | (simp; done) | (simp; omega), by first | omega | ((try simp only [hge, mkK]); omega) | (simp only [List.length_append, List.length_cons, List.length_nil, List.length_set, List.length_take, List.length_drop, List.length_replicate, List.length_map, Nat.min_def, mkAt_len]; omega) | (simp; done) | (simp; omega)⟩, trivial⟩ ?_
    intro a w h
    refine in_normal ?_
    refine then_normal ?_
    refine at_regq (T := S_laws_markIntS_tab) [{}, { nw := true }] { ts := [0, 1, 4, 5], os := [1, 2] } [I64 (((i : Nat) : Int) + 1)] gamOK hT h (by kernel_rfl) ⟨⟨by first | omega | ((try simp only [hge, mkK]); omega) | (simp only [List.length_append, List.length_cons, List.length_nil, List.length_set, List.length_take, List.length_drop, List.length_replicate, List.length_map, Nat.min_def, mkAt_len]; omega) | (simp; done) | (simp; omega), by first | omega | ((try simp only [hge, mkK]); omega) | (simp only [List.length_append, List.length_cons, List.length_nil, List.length_set, List.length_take, List.length_drop, List.length_replicate, List.length_map, Nat.min_def, mkAt_len]; omega) | (simp; done) | (simp; omega)⟩, trivial⟩ ?_
    intro a w h
    replace h := at_out (σ' := ⟨[(0, aS 1), (1, aI ((x1 + ((ctL (Sh.ct (.int 3)) (List.take i x0) : Nat) : Int)) + 1)), (4, aI 0), (5, aI (((i : Nat) : Int) + 1))], [(1, oR (.int 3) (List.set (mkAt (Sh.mk (.int 3)) (Sh.ct (.int 3)) x1 x0 i) i (x1 + ((ctL (Sh.ct (.int 3)) (List.take i x0) : Nat) : Int)))), (2, oP 1 (S_laws_markIntS.hd us 0))]⟩) { ts := [0, 1, 4, 5], os := [1, 2] } h (by kernel_rfl)
    skip
    exact ⟨i + 1, at_eq h (st_congr3 (fun (d0 : List Int) (d1 : Int) (d2 : Int) => (⟨[(0, aS 1), (1, aI d1), (4, aI 0), (5, aI d2)], [(1, oR (.int 3) d0), (2, oP 1 (S_laws_markIntS.hd us 0))]⟩ : St)) (show ((List.set (mkAt (Sh.mk (.int 3)) (Sh.ct (.int 3)) x1 x0 i) i (x1 + ((ctL (Sh.ct (.int 3)) (List.take i x0) : Nat) : Int))) : List Int) = (mkAt (Sh.mk (.int 3)) (Sh.ct (.int 3)) x1 x0 (i + 1)) from by first | with_reducible rfl | (refine mkAt_set' (z := 0) (by omega) ?_; first | (simp only [hge, mkK]; done) | ((try simp only [hge, mkK]); show _ = Sh.mk (.int 3) (x0.getD i 0) _; exact (by show (_ : Int) = _; first | rfl | omega))) | rfl) (show ((x1 + ((ctL (Sh.ct (.int 3)) (List.take i x0) : Nat) : Int)) + 1 : Int) = (x1 + ((ctL (Sh.ct (.int 3)) (List.take (i + 1) x0) : Nat) : Int)) from by first | with_reducible rfl | (((try simp only [hge, mkK]); omega)) | rfl) (show (((i : Nat) : Int) + 1 : Int) = (((i + 1) : Nat) : Int) from by first | with_reducible rfl | (omega) | rfl)), (by first | omega | (refine ⟨?_, ?_⟩ <;> omega)), (by omega)⟩
  · replace h1 : ¬ (((i : Nat) : Int) < ((List.length (mkAt (Sh.mk (.int 3)) (Sh.ct (.int 3)) x1 x0 i) : Nat) : Int)) := of_decide_eq_false h1
    have hml : List.length (mkAt (Sh.mk (.int 3)) (Sh.ct (.int 3)) x1 x0 i) = List.length x0 := mkAt_len
    rw [hml] at h1
    refine wp_exit ?_
    refine then_exit ?_
    refine then_exit ?_
    refine in_hit ?_
    refine then_normal ?_
    refine wp_seq ?_
    refine at_reg (T := S_laws_markIntS_tab) [] { ts := [4], os := [1, 2] } ⟨[(4, aI (x1 + ((ctL (Sh.ct (.int 3)) (List.take i x0) : Nat) : Int)))], [(1, oR (.int 3) (mkAt (Sh.mk (.int 3)) (Sh.ct (.int 3)) x1 x0 i)), (2, oP 1 (S_laws_markIntS.hd us 0))]⟩ [] gamOK hT h (by kernel_rfl) trivial ?_
    intro a w h
    refine then_normal ?_
    refine wp_ret ?_
    exact at_returnI (S := S_laws_markIntS) (x := (x0, x1, ())) [1] [2] ((mkAt (Sh.mk (.int 3)) (Sh.ct (.int 3)) x1 x0 i), (x1, ())) (some ((x1 + ((ctL (Sh.ct (.int 3)) (List.take i x0) : Nat) : Int)), ())) [S_laws_markIntS.hd us 0 = S_laws_markIntS.hd us 0] hio h (by kernel_rfl) ⟨rfl, trivial⟩ (by first | rfl | (show ((mkAt (Sh.mk (.int 3)) (Sh.ct (.int 3)) x1 x0 i), (x1, ())) = ((Sh.mk s34) x0 x1, (x1, ())); rw [show ((mkAt (Sh.mk (.int 3)) (Sh.ct (.int 3)) x1 x0 i) : (List Int)) = (Sh.mk s34) x0 x1 from by exact mkAt_all (by omega)])) (fun z e => (Option.some.inj e) ▸ (congrArg (fun z => (z, ())) (show ((x1 + ((ctL (Sh.ct (.int 3)) (List.take i x0) : Nat) : Int))) = (mkK s34) x0 x1 from by (unfold mkK; rw [take_all (by omega)]; rfl))))

def S_laws_markGroup : Sum := { fid := 51, dom := [s72, (.int 3)], cod := [(.int 3)], dp := true, fz := false, pre := fun x => (pMkT s72) x.1 x.2.1, g := fun x => (((mkKT s72) x.1 x.2.1), ()), kinds := [.io, .rd], upd := fun x => ((Sh.mkT s72) x.1 x.2.1, (x.2.1, ())) }
def S_laws_markGroup_tab : List (Nat × Sum) := [(37, S_laws_markIntS)]
theorem S_laws_markGroup_ok : FnOK Try.prog 51 S_laws_markGroup := by
  refine at_enterI 10 [1] [2] (fun us x => ⟨[(0, aG [cI x.1.1, cI x.1.2.1, .sl 1]), (1, aI x.2.1)], [(1, oR (.int 3) x.1.2.2), (2, oP 1 (S_laws_markGroup.hd us 0))]⟩) Try.func51 rfl (by kernel_rfl) (fun us x => rfl) ?_
  rintro w0 Z0 us ⟨x0, x1, u⟩ L a w
  revert x0 x1
  intro (x0 : T72) (x1 : Int) hio hpre hlens h
  replace h : At w0 Z0 L 10 ⟨[(0, aG [cI x0.1, cI x0.2.1, .sl 1]), (1, aI x1)], [(1, oR (.int 3) x0.2.2), (2, oP 1 (S_laws_markGroup.hd us 0))]⟩ a w := h
  replace hpre : (pMkT s72) x0 x1 := hpre
  have hl1 : List.length x0.2.2 ≤ 9223372036854775807 := hlens.1.2.2.1
  have hT : TabOK Try.prog S_laws_markGroup_tab := (.cons S_laws_markIntS_ok .nil)
  have hp : 0 ≤ x1 ∧ x1 + ((Sh.ctT s72 x0 : Nat) : Int) ≤ 4611686018427387904 := hpre
  have hct0 : Sh.ctT s72 x0 = (0 + (0 + (Sh.ct s34 x0.2.2))) := rfl
  refine wp_seq ?_
  refine at_regq (T := S_laws_markGroup_tab) [{ ids := [3] }] { ts := [1, 2, 4], os := [1, 2, 3] } [] gamOK hT h (by kernel_rfl) trivial ?_
  intro a w h
  refine then_normal ?_
  refine wp_seq ?_
  refine at_regq (T := S_laws_markGroup_tab) [] { ts := [1, 4], os := [1, 2] } [(pMk s34) x0.2.2 x1] gamOK hT h (by kernel_rfl) ⟨(by (first | (show (0 : Int) ≤ _ ∧ _ + ((Sh.ct _ _ : Nat) : Int) ≤ (4611686018427387904 : Int); (try simp only [mkK, mkKT]); constructor <;> omega) | (show (0 : Int) ≤ _ ∧ _ + ((Sh.ctT _ _ : Nat) : Int) ≤ (4611686018427387904 : Int); (try simp only [mkK, mkKT]); constructor <;> omega))), trivial⟩ ?_
  intro a w h
  refine then_normal ?_
  refine wp_seq ?_
  refine at_regq (T := S_laws_markGroup_tab) [] { ts := [4], os := [1, 2] } [] gamOK hT h (by kernel_rfl) trivial ?_
  intro a w h
  refine then_normal ?_
  refine wp_ret ?_
  exact at_returnI (S := S_laws_markGroup) (x := (x0, x1, ())) [1] [2] ((x0.1, (x0.2.1, ((Sh.mk s34) x0.2.2 x1))), (x1, ())) (some (((mkK s34) x0.2.2 x1), ())) [S_laws_markGroup.hd us 0 = S_laws_markGroup.hd us 0] hio h (by kernel_rfl) ⟨rfl, trivial⟩ (by first | rfl | (show ((x0.1, (x0.2.1, ((Sh.mk s34) x0.2.2 x1))), (x1, ())) = ((Sh.mkT s72) x0 x1, (x1, ())); rw [show ((x0.1, (x0.2.1, ((Sh.mk s34) x0.2.2 x1))) : T72) = (Sh.mkT s72) x0 x1 from by show _ = Sh.mkT s72 x0 x1; exact (Prod.ext rfl (Prod.ext rfl (congrArg (fun k => Sh.mk s34 x0.2.2 k) (show (_ : Int) = x1 + ((0 : Nat) : Int) + ((0 : Nat) : Int) from by first | rfl | ((try simp only [mkK, mkKT]); omega)))))])) (fun z e => (Option.some.inj e) ▸ (congrArg (fun z => (z, ())) (show (((mkK s34) x0.2.2 x1)) = (mkKT s72) x0 x1 from by ((try simp only [mkK, mkKT]); omega))))

def S_laws_szIntS : Sum := { fid := 88, dom := [s34, (.int 3)], cod := [(.int 3)], dp := true, fz := false, pre := fun x => (pSz s34) x.1 x.2.1, g := fun x => (((szD s34) x.1 x.2.1), ()) }
def S_laws_szIntS_tab : List (Nat × Sum) := []
theorem S_laws_szIntS_ok : FnOK Try.prog 88 S_laws_szIntS := by
  refine at_enter 12 (fun x => ⟨[(0, aF (.int 3) x.1), (1, aI x.2.1)], []⟩) Try.func88 rfl (by kernel_rfl) (fun x => rfl) ?_
  rintro w0 Z0 ⟨x0, x1, u⟩ a w
  revert x0 x1
  intro (x0 : (List Int)) (x1 : Int) hpre hlens h
  replace h : At w0 Z0 [] 12 ⟨[(0, aF (.int 3) x0), (1, aI x1)], []⟩ a w := h
  replace hpre : (pSz s34) x0 x1 := hpre
  have hl1 : List.length x0 ≤ 9223372036854775807 := hlens.1.1
  have hT : TabOK Try.prog S_laws_szIntS_tab := .nil
  have hp : 0 ≤ x1 ∧ x1 ≤ 9223372036854775807 := hpre
  refine wp_seq ?_
  refine at_regq (T := S_laws_szIntS_tab) [] { ts := [0, 1, 4], os := [] } [] gamOK hT h (by kernel_rfl) trivial ?_
  intro a w h
  refine then_normal ?_
  refine wp_seq ?_
  refine at_regq (T := S_laws_szIntS_tab) [{}, {}, {}, { nw := true }] { ts := [1, 4], os := [] } [I64 (x1 - ((List.length x0 : Nat) : Int))] gamOK hT h (by kernel_rfl) ⟨⟨by first | omega | (simp only [List.length_append, List.length_cons, List.length_nil, List.length_set, List.length_take, List.length_drop, List.length_replicate, List.length_map, Nat.min_def]; omega) | (simp; done) | (simp; omega) | done, by first | omega | (simp only [List.length_append, List.length_cons, List.length_nil, List.length_set, List.length_take, List.length_drop, List.length_replicate, List.length_map, Nat.min_def]; omega) | (simp; done) | (simp; omega) | done⟩, trivial⟩ ?_
  intro a w h
  refine then_normal ?_
  refine wp_seq ?_
  refine wp_seq ?_
  refine at_regq (T := S_laws_szIntS_tab) [] { ts := [1, 4, 10], os := [] } [] gamOK hT h (by kernel_rfl) trivial ?_
  intro a w h
  refine then_normal ?_
  refine at_test (decide (x1 - ((List.length x0 : Nat) : Int) < 0)) h (by kernel_rfl) (fun h1 => ?_) (fun h1 => ?_)
  · replace h1 : x1 - ((List.length x0 : Nat) : Int) < 0 := of_decide_eq_true h1
    refine wp_seq ?_
    refine at_reg (T := S_laws_szIntS_tab) [] { ts := [1, 4], os := [] } ⟨[(1, aI (x1 - ((List.length x0 : Nat) : Int))), (4, aI (-1))], []⟩ [] gamOK hT h (by kernel_rfl) trivial ?_
    intro a w h
    refine then_normal ?_
    refine wp_ret ?_
    refine then_ret ?_
    exact at_return (S := S_laws_szIntS) (x := (x0, x1, ())) ((-1), ()) [] h (by kernel_rfl) trivial (congrArg (fun z => (z, ())) (show ((-1)) = (szD s34) x0 x1 from by exact (szD_no (by rw [sz_flat (by rfl)]; omega)).symm))
  · replace h1 : ¬ (x1 - ((List.length x0 : Nat) : Int) < 0) := of_decide_eq_false h1
    refine wp_skip ?_
    refine then_normal ?_
    refine wp_seq ?_
    refine at_reg (T := S_laws_szIntS_tab) [] { ts := [4], os := [] } ⟨[(4, aI (x1 - ((List.length x0 : Nat) : Int)))], []⟩ [] gamOK hT h (by kernel_rfl) trivial ?_
    intro a w h
    refine then_normal ?_
    refine wp_ret ?_
    exact at_return (S := S_laws_szIntS) (x := (x0, x1, ())) (x1 - ((List.length x0 : Nat) : Int), ()) [] h (by kernel_rfl) trivial (congrArg (fun z => (z, ())) (show (x1 - ((List.length x0 : Nat) : Int)) = (szD s34) x0 x1 from by exact ((szD_ok (by rw [sz_flat (by rfl)]; omega)).trans (by rw [sz_flat (by rfl)])).symm))

def S_laws_szGroup : Sum := { fid := 46, dom := [s70, (.int 3)], cod := [(.int 3)], dp := true, fz := false, pre := fun x => (pSz s70) x.1 x.2.1, g := fun x => (((szD s70) x.1 x.2.1), ()) }
def S_laws_szGroup_tab : List (Nat × Sum) := [(88, S_laws_szIntS)]
theorem S_laws_szGroup_ok : FnOK Try.prog 46 S_laws_szGroup := by
  refine at_enter 12 (fun x => ⟨[(0, aG [cI x.1.1, cI x.1.2.1, .ro (.int 3) x.1.2.2]), (1, aI x.2.1)], []⟩) Try.func46 rfl (by kernel_rfl) (fun x => rfl) ?_
  rintro w0 Z0 ⟨x0, x1, u⟩ a w
  revert x0 x1
  intro (x0 : T70) (x1 : Int) hpre hlens h
  replace h : At w0 Z0 [] 12 ⟨[(0, aG [cI x0.1, cI x0.2.1, .ro (.int 3) x0.2.2]), (1, aI x1)], []⟩ a w := h
  replace hpre : (pSz s70) x0 x1 := hpre
  have hl1 : List.length x0.2.2 ≤ 9223372036854775807 := hlens.1.2.2.1
  have hT : TabOK Try.prog S_laws_szGroup_tab := (.cons S_laws_szIntS_ok .nil)
  have hp : 0 ≤ x1 ∧ x1 ≤ 9223372036854775807 := hpre
  have hsz : Sh.sz s70 x0 = (0 + (0 + (Sh.sz s34 x0.2.2))) := rfl
  refine wp_seq ?_
  refine at_regq (T := S_laws_szGroup_tab) [{ ids := [1] }] { ts := [1, 2, 4], os := [1] } [] gamOK hT h (by kernel_rfl) trivial ?_
  intro a w h
  refine then_normal ?_
  refine wp_seq ?_
  refine at_regq (T := S_laws_szGroup_tab) [] { ts := [1, 4], os := [] } [(pSz s34) x0.2.2 x1] gamOK hT h (by kernel_rfl) ⟨(by (show (0 : Int) ≤ _ ∧ _ ≤ (9223372036854775807 : Int); constructor <;> omega)), trivial⟩ ?_
  intro a w h
  refine then_normal ?_
  refine wp_seq ?_
  refine wp_seq ?_
  refine at_regq (T := S_laws_szGroup_tab) [] { ts := [1, 4, 10], os := [] } [] gamOK hT h (by kernel_rfl) trivial ?_
  intro a w h
  refine then_normal ?_
  refine at_test (decide (((szD s34) x0.2.2 x1) < 0)) h (by kernel_rfl) (fun h1 => ?_) (fun h1 => ?_)
  · replace h1 : ((szD s34) x0.2.2 x1) < 0 := of_decide_eq_true h1
    have hvh1 := szD_neg h1 (by omega)
    refine wp_seq ?_
    refine at_reg (T := S_laws_szGroup_tab) [] { ts := [1, 4], os := [] } ⟨[(1, aI ((szD s34) x0.2.2 x1)), (4, aI (-1))], []⟩ [] gamOK hT h (by kernel_rfl) trivial ?_
    intro a w h
    refine then_normal ?_
    refine wp_ret ?_
    refine then_ret ?_
    exact at_return (S := S_laws_szGroup) (x := (x0, x1, ())) ((-1), ()) [] h (by kernel_rfl) trivial (congrArg (fun z => (z, ())) (show ((-1)) = (szD s70) x0 x1 from by (first | exact (szD_no (by omega)).symm | exact ((szD_ok (by omega)).trans (by omega)).symm)))
  · replace h1 : ¬ (((szD s34) x0.2.2 x1) < 0) := of_decide_eq_false h1
    have hvh1 := szD_val h1 (by omega)
    refine wp_skip ?_
    refine then_normal ?_
    refine wp_seq ?_
    refine at_reg (T := S_laws_szGroup_tab) [] { ts := [4], os := [] } ⟨[(4, aI ((szD s34) x0.2.2 x1))], []⟩ [] gamOK hT h (by kernel_rfl) trivial ?_
    intro a w h
    refine then_normal ?_
    refine wp_ret ?_
    exact at_return (S := S_laws_szGroup) (x := (x0, x1, ())) (((szD s34) x0.2.2 x1), ()) [] h (by kernel_rfl) trivial (congrArg (fun z => (z, ())) (show (((szD s34) x0.2.2 x1)) = (szD s70) x0 x1 from by (first | exact (szD_no (by omega)).symm | exact ((szD_ok (by omega)).trans (by omega)).symm)))

def S_laws_toIntS : Sum := { fid := 32, dom := [s34], cod := [s34], dp := true, fz := false, pre := fun x => (pTo s34) x.1, g := fun x => (((idD s34) x.1), ()) }
def S_laws_toIntS_tab : List (Nat × Sum) := []
theorem S_laws_toIntS_ok : FnOK Try.prog 32 S_laws_toIntS := by
  refine at_enter 22 (fun x => ⟨[(0, aF (.int 3) x.1)], []⟩) Try.func32 rfl (by kernel_rfl) (fun x => rfl) ?_
  rintro w0 Z0 ⟨x0, u⟩ a w
  revert x0
  intro (x0 : (List Int)) hpre hlens h
  replace h : At w0 Z0 [] 22 ⟨[(0, aF (.int 3) x0)], []⟩ a w := h
  replace hpre : (pTo s34) x0 := hpre
  have hl1 : List.length x0 ≤ 9223372036854775807 := hlens.1.1
  have hT : TabOK Try.prog S_laws_toIntS_tab := .nil
  have hp : Sh.sz s34 x0 ≤ 1048576 := hpre
  have hsz : Sh.sz s34 x0 = List.length x0 + ctL (Sh.sz (.int 3)) x0 := rfl
  refine wp_seq ?_
  refine at_regq (T := S_laws_toIntS_tab) [] { ts := [0, 2], os := [] } [] gamOK hT h (by kernel_rfl) trivial ?_
  intro a w h
  refine then_normal ?_
  refine wp_seq ?_
  refine at_regq (T := S_laws_toIntS_tab) [{}, {}, { ids := [1] }] { ts := [0, 2, 3], os := [1] } [(0 : Int) ≤ ((List.length x0 : Nat) : Int) ∧ ((List.length x0 : Nat) : Int) = ((List.length x0 : Nat) : Int) ∧ ((List.length x0 : Nat) : Int) * (8 : Nat) ≤ (140737488355328 : Int)] gamOK hT h (by kernel_rfl) ⟨(by refine ⟨?_, ?_, ?_⟩ <;> ((have hA0 := mul_f ((List.length x0 : Nat) : Int) (8 : Nat); first | omega | (simp only [List.length_append, List.length_cons, List.length_nil, List.length_set, List.length_take, List.length_drop, List.length_replicate, List.length_map, Nat.min_def, copyTo_len hok0]; omega) | (simp; done) | (simp; omega) | done))), trivial⟩ ?_
  intro a w h
  refine then_normal ?_
  refine wp_seq ?_
  refine wp_seq ?_
  refine at_regq (T := S_laws_toIntS_tab) [] { ts := [0, 2, 3, 4], os := [1] } [] gamOK hT h (by kernel_rfl) trivial ?_
  intro a w h
  refine then_normal ?_
  refine wp_block ?_
  replace h := at_out (σ' := ⟨[(0, aF (.int 3) x0), (2, .p (.c (cN))), (3, aS 1), (4, aI 0)], [(1, oR (.int 3) (List.replicate (List.length x0) (0 : Int)))]⟩) { ts := [0, 2, 3, 4], os := [1] } h (by kernel_rfl)
  refine at_loop (fun i : Nat => (⟨[(0, aF (.int 3) x0), (2, .p (.c (cN))), (3, aS 1), (4, aI ((i : Nat) : Int))], [(1, oR (.int 3) (copyTo 0 x0 i))]⟩ : St)) (fun i => i ≤ List.length x0) (fun i => List.length x0 - i) (0) h (st_congr2 (fun (d0 : List Int) (d1 : Int) => (⟨[(0, aF (.int 3) x0), (2, .p (.c (cN))), (3, aS 1), (4, aI d1)], [(1, oR (.int 3) d0)]⟩ : St)) (show ((List.replicate (List.length x0) (0 : Int)) : List Int) = (copyTo 0 x0 (0)) from by first | with_reducible rfl | (exact copyTo_zero) | rfl) (show (0 : Int) = (((0) : Nat) : Int) from by first | with_reducible rfl | (exact copyTo_zero) | rfl)) (by first | omega | simp | (refine ⟨?_, ?_⟩ <;> first | omega | simp)) ?_
  intro i a w hok0 h
  refine wp_seq ?_
  refine wp_seq ?_
  refine at_reg (T := S_laws_toIntS_tab) [] { ts := [0, 2, 3, 4, 11], os := [1] } ⟨[(0, aF (.int 3) x0), (2, .p (.c (cN))), (3, aS 1), (4, aI ((i : Nat) : Int)), (11, aB (decide (((i : Nat) : Int) < ((List.length x0 : Nat) : Int))))], [(1, oR (.int 3) (copyTo 0 x0 i))]⟩ [] gamOK hT h (by kernel_rfl) trivial ?_
  intro a w h
  refine then_normal ?_
  refine at_test (decide (((i : Nat) : Int) < ((List.length x0 : Nat) : Int))) h (by kernel_rfl) (fun h1 => ?_) (fun h1 => ?_)
  · replace h1 : ((i : Nat) : Int) < ((List.length x0 : Nat) : Int) := of_decide_eq_true h1
    have hat := ctL_at_le (c := Sh.sz (.int 3)) (xs := x0) (z := 0) (i := i) (by omega)
    refine wp_skip ?_
    refine then_normal ?_
    refine wp_seq ?_
    refine wp_block ?_
    refine at_regq (T := S_laws_toIntS_tab) [] { ts := [0, 2, 3, 4], os := [1] } [(0 : Int) ≤ ((i : Nat) : Int) ∧ ((i : Nat) : Int) < ((List.length x0 : Nat) : Int), (0 : Int) ≤ ((i : Nat) : Int) ∧ ((i : Nat) : Int) < ((List.length (copyTo 0 x0 i) : Nat) : Int), i < List.length (copyTo 0 x0 i)] gamOK hT h (by kernel_rfl) ⟨(by refine ⟨?_, ?_⟩ <;> (first | omega | (simp only [List.length_append, List.length_cons, List.length_nil, List.length_set, List.length_take, List.length_drop, List.length_replicate, List.length_map, Nat.min_def, copyTo_len hok0]; omega) | (simp; done) | (simp; omega) | done)), (by refine ⟨?_, ?_⟩ <;> (first | omega | (simp only [List.length_append, List.length_cons, List.length_nil, List.length_set, List.length_take, List.length_drop, List.length_replicate, List.length_map, Nat.min_def, copyTo_len hok0]; omega) | (simp; done) | (simp; omega) | done)), (by first | omega | (simp only [List.length_append, List.length_cons, List.length_nil, List.length_set, List.length_take, List.length_drop, List.length_replicate, List.length_map, Nat.min_def, copyTo_len hok0]; omega) | (simp; done) | (simp; omega) | done), trivial⟩ ?_
    intro a w h
    refine in_normal ?_
    refine then_normal ?_
    refine at_regq (T := S_laws_toIntS_tab) [{}, { nw := true }] { ts := [0, 2, 3, 4], os := [1] } [I64 (((i : Nat) : Int) + 1)] gamOK hT h (by kernel_rfl) ⟨⟨by first | omega | (simp only [List.length_append, List.length_cons, List.length_nil, List.length_set, List.length_take, List.length_drop, List.length_replicate, List.length_map, Nat.min_def, copyTo_len hok0]; omega) | (simp; done) | (simp; omega) | done, by first | omega | (simp only [List.length_append, List.length_cons, List.length_nil, List.length_set, List.length_take, List.length_drop, List.length_replicate, List.length_map, Nat.min_def, copyTo_len hok0]; omega) | (simp; done) | (simp; omega) | done⟩, trivial⟩ ?_
    intro a w h
    replace h := at_out (σ' := ⟨[(0, aF (.int 3) x0), (2, .p (.c (cN))), (3, aS 1), (4, aI (((i : Nat) : Int) + 1))], [(1, oR (.int 3) (List.set (copyTo 0 x0 i) i (x0.getD i 0)))]⟩) { ts := [0, 2, 3, 4], os := [1] } h (by kernel_rfl)
    exact ⟨i + 1, at_eq h (st_congr2 (fun (d0 : List Int) (d1 : Int) => (⟨[(0, aF (.int 3) x0), (2, .p (.c (cN))), (3, aS 1), (4, aI d1)], [(1, oR (.int 3) d0)]⟩ : St)) (show ((List.set (copyTo 0 x0 i) i (x0.getD i 0)) : List Int) = (copyTo 0 x0 (i + 1)) from by first | with_reducible rfl | (exact copyTo_set (by omega)) | rfl) (show (((i : Nat) : Int) + 1 : Int) = (((i + 1) : Nat) : Int) from by first | with_reducible rfl | (omega) | rfl)), (by first | omega | (refine ⟨?_, ?_⟩ <;> omega)), (by omega)⟩
  · replace h1 : ¬ (((i : Nat) : Int) < ((List.length x0 : Nat) : Int)) := of_decide_eq_false h1
    refine wp_exit ?_
    refine then_exit ?_
    refine then_exit ?_
    refine in_hit ?_
    refine then_normal ?_
    refine wp_seq ?_
    refine at_regq (T := S_laws_toIntS_tab) [] { ts := [2], os := [1] } [] gamOK hT h (by kernel_rfl) trivial ?_
    intro a w h
    refine then_normal ?_
    refine wp_ret ?_
    exact at_return (S := S_laws_toIntS) (x := (x0, ())) ((copyTo 0 x0 i), ()) [] h (by kernel_rfl) trivial (congrArg (fun z => (z, ())) (show ((copyTo 0 x0 i)) = (idD s34) x0 from by (rw [copyTo_all (by omega)]; rfl)))

def S_laws_toGroup : Sum := { fid := 48, dom := [s70], cod := [s72], dp := true, fz := false, pre := fun x => (pTo s70) x.1, g := fun x => (((idD s70) x.1), ()) }
def S_laws_toGroup_tab : List (Nat × Sum) := [(32, S_laws_toIntS)]
theorem S_laws_toGroup_ok : FnOK Try.prog 48 S_laws_toGroup := by
  refine at_enter 15 (fun x => ⟨[(0, aG [cI x.1.1, cI x.1.2.1, .ro (.int 3) x.1.2.2])], []⟩) Try.func48 rfl (by kernel_rfl) (fun x => rfl) ?_
  rintro w0 Z0 ⟨x0, u⟩ a w
  revert x0
  intro (x0 : T70) hpre hlens h
  replace h : At w0 Z0 [] 15 ⟨[(0, aG [cI x0.1, cI x0.2.1, .ro (.int 3) x0.2.2])], []⟩ a w := h
  replace hpre : (pTo s70) x0 := hpre
  have hl1 : List.length x0.2.2 ≤ 9223372036854775807 := hlens.1.2.2.1
  have hT : TabOK Try.prog S_laws_toGroup_tab := (.cons S_laws_toIntS_ok .nil)
  have hp : Sh.sz s70 x0 ≤ 1048576 := hpre
  have hsz : Sh.sz s70 x0 = (0 + (0 + (Sh.sz s34 x0.2.2))) := rfl
  refine wp_seq ?_
  refine at_regq (T := S_laws_toGroup_tab) [{ ids := [1] }, { ids := [2] }] { ts := [1, 2], os := [1, 2] } [] gamOK hT h (by kernel_rfl) trivial ?_
  intro a w h
  refine then_normal ?_
  refine wp_seq ?_
  refine at_regq (T := S_laws_toGroup_tab) [{ ids := [3] }] { ts := [1, 2, 3], os := [1, 2, 3] } [] gamOK hT h (by kernel_rfl) trivial ?_
  intro a w h
  refine then_normal ?_
  refine wp_seq ?_
  refine at_regq (T := S_laws_toGroup_tab) [] { ts := [1, 2, 3], os := [1, 2, 3] } [] gamOK hT h (by kernel_rfl) trivial ?_
  intro a w h
  refine then_normal ?_
  refine wp_seq ?_
  refine at_reg (T := S_laws_toGroup_tab) [] { ts := [1, 2, 3], os := [1, 2, 3] } ⟨[(1, aP 1 0), (2, aP 2 0), (3, aP 3 0)], [(1, oX 70 [cI x0.1, cI x0.2.1, .ro (.int 3) x0.2.2]), (2, oX 72 [cI 0, cI 0, cN]), (3, oX 72 [cI x0.1, cI x0.2.1, cN])]⟩ [] gamOK hT h (by kernel_rfl) trivial ?_
  intro a w h
  refine then_normal ?_
  refine wp_seq ?_
  refine at_regq (T := S_laws_toGroup_tab) [{}, {}, { ids := [4] }] { ts := [2, 3], os := [2, 3, 4] } [(pTo s34) x0.2.2] gamOK hT h (by kernel_rfl) ⟨(by (show Sh.sz _ _ ≤ 1048576; omega)), trivial⟩ ?_
  intro a w h
  refine then_normal ?_
  refine wp_seq ?_
  refine at_regq (T := S_laws_toGroup_tab) [] { ts := [2], os := [2, 4] } [] gamOK hT h (by kernel_rfl) trivial ?_
  intro a w h
  refine then_normal ?_
  refine wp_ret ?_
  exact at_return (S := S_laws_toGroup) (x := (x0, ())) (x0, ()) [] h (by kernel_rfl) trivial (congrArg (fun z => (z, ())) (show (x0) = (idD s70) x0 from by rfl))

/-- halving -/
def bsF (p : Nat → Bool) (i j : Nat) : Nat := if h : i < j then (if p ((i + j) / 2) = true then bsF p ((i + j) / 2 + 1) j else bsF p i ((i + j) / 2)) else i
termination_by j - i
theorem bsF_up {p : Nat → Bool} {i j : Nat} (h : i < j) (hp : p ((i + j) / 2) = true) : bsF p i j = bsF p ((i + j) / 2 + 1) j := by rw [bsF, dif_pos h, if_pos hp]
theorem bsF_down {p : Nat → Bool} {i j : Nat} (h : i < j) (hp : p ((i + j) / 2) = false) : bsF p i j = bsF p i ((i + j) / 2) := by rw [bsF, dif_pos h, if_neg (by rw [hp]; decide)]
theorem bsF_end {p : Nat → Bool} {i j : Nat} (h : ¬ i < j) : bsF p i j = i := by rw [bsF, dif_neg h]
theorem bsF_bd (p : Nat → Bool) : ∀ (d i j : Nat), j - i ≤ d → i ≤ j → i ≤ bsF p i j ∧ bsF p i j ≤ j
  | 0, i, j, h, hij => by rw [bsF_end (by omega)]; omega
  | d + 1, i, j, h, hij => by
    by_cases hl : i < j
    · cases hp : p ((i + j) / 2) with
      | true => rw [bsF_up hl hp]; have := bsF_bd p d ((i + j) / 2 + 1) j (by omega) (by omega); omega
      | false => rw [bsF_down hl hp]; have := bsF_bd p d i ((i + j) / 2) (by omega) (by omega); omega
    · rw [bsF_end hl]; omega
/-- p holds up to a place, and not from there on -/
theorem bsF_first {p : Nat → Bool} {n : Nat} (hm : ∀ a b, a ≤ b → b < n → p b = true → p a = true) : ∀ (d i j : Nat), j - i ≤ d → i ≤ j → j ≤ n → (∀ a, a < i → p a = true) → (∀ a, j ≤ a → a < n → p a = false) →
    (∀ a, a < bsF p i j → p a = true) ∧ ∀ a, bsF p i j ≤ a → a < n → p a = false
  | 0, i, j, h, hij, hjn, h1, h2 => by rw [bsF_end (by omega)]; exact ⟨h1, fun a ha hn => h2 a (by omega) hn⟩
  | d + 1, i, j, h, hij, hjn, h1, h2 => by
    by_cases hl : i < j
    · cases hp : p ((i + j) / 2) with
      | true => rw [bsF_up hl hp]; exact bsF_first hm d _ j (by omega) (by omega) hjn (fun a ha => hm a _ (by omega) (by omega) hp) h2
      | false =>
        rw [bsF_down hl hp]
        refine bsF_first hm d i _ (by omega) (by omega) (by omega) h1 fun a ha hn => ?_
        cases hpa : p a with
        | false => rfl
        | true => rw [hm _ a ha hn hpa] at hp; cases hp
    · rw [bsF_end hl]; exact ⟨h1, fun a ha hn => h2 a (by omega) hn⟩
theorem half_eq {i j : Nat} (h : i + j ≤ 2147483648) : IntKind.i64.wrap (Int.fdiv (IntKind.u64.wrap ((i : Int) + (j : Int))) (2 ^ (min (1 : Int).toNat (IntKind.u64).bits))) = (((i + j) / 2 : Nat) : Int) := by
  have e1 : IntKind.u64.wrap ((i : Int) + (j : Int)) = ((i + j : Nat) : Int) := by
    simp only [IntKind.wrap, IntKind.bits, IntKind.signed]
    simp
    omega
  have e2 : (2 : Int) ^ (min (1 : Int).toNat (IntKind.u64).bits) = 2 := by decide
  rw [e1, e2, Int.fdiv_eq_ediv_of_nonneg _ (by omega), IntKind.wrap_i64]
  omega
def ltAt (xs : List Int) (v : Int) (k : Nat) : Bool := decide (xs.getD k 0 < v)
/-- how many at the head pass -/
def twL {α : Type} (p : α → Bool) (xs : List α) : Nat := (xs.takeWhile p).length
theorem twL_eq {α : Type} {p : α → Bool} {z : α} : ∀ {xs : List α} {k : Nat}, k ≤ xs.length → allTo1 p xs z k → (k < xs.length → p (xs.getD k z) = false) → twL p xs = k
  | [], k, h, _, _ => by simp at h; subst h; rfl
  | x :: l, 0, _, _, h => by
    have h0 : p x = false := h (by simp)
    simp [twL, List.takeWhile, h0]
  | x :: l, k + 1, h, ha, he => by
    have h0 : p x = true := ha 0 (by omega)
    have ih := twL_eq (p := p) (z := z) (xs := l) (k := k) (by simpa using h) (fun j hj => by have := ha (j + 1) (by omega); simpa using this) (fun hk => by have := he (by simpa using hk); simpa using this)
    unfold twL at ih ⊢
    rw [List.takeWhile_cons_of_pos h0, List.length_cons, ih]
theorem twL_le {α : Type} (p : α → Bool) (xs : List α) : twL p xs ≤ xs.length := by
  unfold twL
  exact (List.takeWhile_sublist p).length_le
def grpP (xs : List Int) (j : Nat) : Bool := (decide (0 ≤ xs.getD j 0) && decide (xs.getD j 0 ≤ 7)) && (decide (j = 0) || decide (xs.getD (j - 1) 0 < xs.getD j 0))
theorem grp_t {xs : List Int} {i : Nat} (h1 : 0 ≤ xs.getD i 0 ∧ xs.getD i 0 ≤ 7) (h2 : i = 0 ∨ xs.getD (((i : Nat) : Int) - 1).toNat 0 < xs.getD i 0) : grpP xs i = true := by
  have e : (((i : Nat) : Int) - 1).toNat = i - 1 := by omega
  rw [e] at h2
  unfold grpP
  rw [decide_eq_true h1.1, decide_eq_true h1.2]
  rcases h2 with h2 | h2
  · rw [decide_eq_true h2]; rfl
  · rw [decide_eq_true h2]; simp
theorem grp_f {xs : List Int} {i : Nat} (h : (xs.getD i 0 < 0 ∨ 7 < xs.getD i 0) ∨ (0 < i ∧ xs.getD i 0 ≤ xs.getD (((i : Nat) : Int) - 1).toNat 0)) : grpP xs i = false := by
  have e : (((i : Nat) : Int) - 1).toNat = i - 1 := by omega
  rw [e] at h
  unfold grpP
  rw [Bool.and_eq_false_iff, Bool.and_eq_false_iff, Bool.or_eq_false_iff]
  simp only [decide_eq_false_iff_not]
  omega
theorem grp_sorted {xs : List Int} (h : allN (grpP xs) xs.length = true) : ∀ a b, a < b → b < xs.length → xs.getD a 0 < xs.getD b 0 := by
  intro a b hab hb
  obtain ⟨d, rfl⟩ : ∃ d, b = a + 1 + d := ⟨b - a - 1, by omega⟩
  induction d with
  | zero =>
    have := allN_iff.1 h (a + 1) hb
    unfold grpP at this
    simp at this
    simpa using this.2
  | succ d ih =>
    have h1 := ih (by omega) (by omega)
    have := allN_iff.1 h (a + 1 + (d + 1)) hb
    unfold grpP at this
    simp only [Bool.and_eq_true, Bool.or_eq_true, decide_eq_true_iff] at this
    have e : a + 1 + (d + 1) - 1 = a + 1 + d := by omega
    rw [e] at this
    omega
theorem grp_len {xs : List Int} (h : allN (grpP xs) xs.length = true) : xs.length ≤ 8 := by
  have hs := grp_sorted h
  have h0 : ∀ i, i < xs.length → (i : Int) ≤ xs.getD i 0 := by
    intro i
    induction i with
    | zero =>
      intro hi
      have := allN_iff.1 h 0 hi
      unfold grpP at this
      simp only [Bool.and_eq_true, decide_eq_true_iff] at this
      omega
    | succ i ih => intro hi; have := ih (by omega); have := hs i (i + 1) (by omega) hi; omega
  rcases Nat.lt_or_ge 8 xs.length with h8 | h8
  · have h1 := h0 8 h8
    have := allN_iff.1 h 8 h8
    unfold grpP at this
    simp only [Bool.and_eq_true, decide_eq_true_iff] at this
    omega
  · exact h8
theorem bs_tw {xs : List Int} {v : Int} (h : allN (grpP xs) xs.length = true) : bsF (ltAt xs v) 0 xs.length = twL (fun e => decide (e < v)) xs := by
  have hs := grp_sorted h
  have hm : ∀ a b, a ≤ b → b < xs.length → ltAt xs v b = true → ltAt xs v a = true := fun a b hab hb hp => by
    unfold ltAt at hp ⊢
    rw [decide_eq_true_iff] at hp ⊢
    by_cases e : a = b
    · rw [e]; exact hp
    · have := hs a b (by omega) hb; omega
  obtain ⟨h1, h2⟩ := bsF_first hm xs.length 0 xs.length (by omega) (by omega) (Nat.le_refl _) (fun a ha => by omega) (fun a ha hn => by omega)
  have hb := bsF_bd (ltAt xs v) xs.length 0 xs.length (by omega) (by omega)
  refine (twL_eq (z := 0) hb.2 (fun j hj => h1 j hj) fun hk => h2 _ (Nat.le_refl _) hk).symm

def D_slices_isNaN_int_ := (fun (_ : Int) => false)
def S_slices_isNaN_int_ : Sum := { fid := 163, dom := [(.int 3)], cod := [(.bool 4)], dp := true, fz := false, pre := fun x => True, g := fun x => ((D_slices_isNaN_int_ x.1), ()) }
def S_slices_isNaN_int__tab : List (Nat × Sum) := []
theorem S_slices_isNaN_int__ok : FnOK Try.prog 163 S_slices_isNaN_int_ := by
  refine at_enter 6 (fun x => ⟨[(0, aI x.1)], []⟩) Try.func163 rfl (by kernel_rfl) (fun x => rfl) ?_
  rintro w0 Z0 ⟨x0, u⟩ a w
  revert x0
  intro (x0 : Int) hpre hlens h
  replace h : At w0 Z0 [] 6 ⟨[(0, aI x0)], []⟩ a w := h
  have hT : TabOK Try.prog S_slices_isNaN_int__tab := .nil
  refine wp_seq ?_
  refine at_regq (T := S_slices_isNaN_int__tab) [] { ts := [0, 2], os := [] } [] gamOK hT h (by kernel_rfl) trivial ?_
  intro a w h
  refine then_normal ?_
  refine wp_seq ?_
  refine at_regq (T := S_slices_isNaN_int__tab) [] { ts := [2], os := [] } [] gamOK hT h (by kernel_rfl) trivial ?_
  intro a w h
  refine then_normal ?_
  refine wp_ret ?_
  exact at_return (S := S_slices_isNaN_int_) (x := (x0, ())) (!decide (x0 = x0), ()) [] h (by kernel_rfl) trivial (congrArg (fun z => (z, ())) (show (!decide (x0 = x0)) = D_slices_isNaN_int_ x0 from by unfold D_slices_isNaN_int_; simp))

def D_cmp_isNaN_int_ := (fun (_ : Int) => false)
def S_cmp_isNaN_int_ : Sum := { fid := 188, dom := [(.int 3)], cod := [(.bool 4)], dp := true, fz := false, pre := fun x => True, g := fun x => ((D_cmp_isNaN_int_ x.1), ()) }
def S_cmp_isNaN_int__tab : List (Nat × Sum) := []
theorem S_cmp_isNaN_int__ok : FnOK Try.prog 188 S_cmp_isNaN_int_ := by
  refine at_enter 6 (fun x => ⟨[(0, aI x.1)], []⟩) Try.func188 rfl (by kernel_rfl) (fun x => rfl) ?_
  rintro w0 Z0 ⟨x0, u⟩ a w
  revert x0
  intro (x0 : Int) hpre hlens h
  replace h : At w0 Z0 [] 6 ⟨[(0, aI x0)], []⟩ a w := h
  have hT : TabOK Try.prog S_cmp_isNaN_int__tab := .nil
  refine wp_seq ?_
  refine at_regq (T := S_cmp_isNaN_int__tab) [] { ts := [0, 2], os := [] } [] gamOK hT h (by kernel_rfl) trivial ?_
  intro a w h
  refine then_normal ?_
  refine wp_seq ?_
  refine at_regq (T := S_cmp_isNaN_int__tab) [] { ts := [2], os := [] } [] gamOK hT h (by kernel_rfl) trivial ?_
  intro a w h
  refine then_normal ?_
  refine wp_ret ?_
  exact at_return (S := S_cmp_isNaN_int_) (x := (x0, ())) (!decide (x0 = x0), ()) [] h (by kernel_rfl) trivial (congrArg (fun z => (z, ())) (show (!decide (x0 = x0)) = D_cmp_isNaN_int_ x0 from by unfold D_cmp_isNaN_int_; simp))

def D_cmp_Less_int_ := (fun (a b : Int) => decide (a < b))
def S_cmp_Less_int_ : Sum := { fid := 162, dom := [(.int 3), (.int 3)], cod := [(.bool 4)], dp := true, fz := false, pre := fun x => True, g := fun x => ((D_cmp_Less_int_ x.1 x.2.1), ()) }
def S_cmp_Less_int__tab : List (Nat × Sum) := [(188, S_cmp_isNaN_int_)]
theorem S_cmp_Less_int__ok : FnOK Try.prog 162 S_cmp_Less_int_ := by
  refine at_enter 17 (fun x => ⟨[(0, aI x.1), (1, aI x.2.1)], []⟩) Try.func162 rfl (by kernel_rfl) (fun x => rfl) ?_
  rintro w0 Z0 ⟨x0, x1, u⟩ a w
  revert x0 x1
  intro (x0 : Int) (x1 : Int) hpre hlens h
  replace h : At w0 Z0 [] 17 ⟨[(0, aI x0), (1, aI x1)], []⟩ a w := h
  have hT : TabOK Try.prog S_cmp_Less_int__tab := (.cons S_cmp_isNaN_int__ok .nil)
  refine wp_seq ?_
  refine at_regq (T := S_cmp_Less_int__tab) [] { ts := [0, 1, 4], os := [] } [] gamOK hT h (by kernel_rfl) trivial ?_
  intro a w h
  refine then_normal ?_
  refine wp_seq ?_
  rcases Bool.eq_false_or_eq_true ((D_cmp_isNaN_int_ x0)) with h1 | h1
  · skip
    rcases Bool.eq_false_or_eq_true (!(D_cmp_isNaN_int_ x1)) with h2 | h2
    · skip
      refine at_regq (T := S_cmp_Less_int__tab) [{}, { hint := some (aB true) }, {}, {}, {}, { hint := some (aB true) }] { ts := [4], os := [] } [True, (AV.p (.c (.v (.bool ((D_cmp_isNaN_int_ x0))))) = AV.p (.c (.v (.bool true)))), True, (AV.p (.c (.v (.bool (!(D_cmp_isNaN_int_ x1))))) = AV.p (.c (.v (.bool true))))] gamOK hT h (by kernel_rfl) ⟨trivial, hint_bool (h1), trivial, hint_bool (h2), trivial⟩ ?_
      intro a w h
      refine then_normal ?_
      refine wp_ret ?_
      exact at_return (S := S_cmp_Less_int_) (x := (x0, x1, ())) (true, ()) [] h (by kernel_rfl) trivial (congrArg (fun z => (z, ())) (show (true) = D_cmp_Less_int_ x0 x1 from by unfold D_cmp_Less_int_; simp_all [D_cmp_isNaN_int_]))
    · skip
      refine at_regq (T := S_cmp_Less_int__tab) [{}, { hint := some (aB true) }, {}, {}, {}, { hint := some (aB false) }] { ts := [4], os := [] } [True, (AV.p (.c (.v (.bool ((D_cmp_isNaN_int_ x0))))) = AV.p (.c (.v (.bool true)))), True, (AV.p (.c (.v (.bool (!(D_cmp_isNaN_int_ x1))))) = AV.p (.c (.v (.bool false))))] gamOK hT h (by kernel_rfl) ⟨trivial, hint_bool (h1), trivial, hint_bool (h2), trivial⟩ ?_
      intro a w h
      refine then_normal ?_
      refine wp_ret ?_
      exact at_return (S := S_cmp_Less_int_) (x := (x0, x1, ())) (decide (x0 < x1), ()) [] h (by kernel_rfl) trivial (congrArg (fun z => (z, ())) (show (decide (x0 < x1)) = D_cmp_Less_int_ x0 x1 from by unfold D_cmp_Less_int_; simp_all [D_cmp_isNaN_int_]))
  · skip
    refine at_regq (T := S_cmp_Less_int__tab) [{}, { hint := some (aB false) }] { ts := [4], os := [] } [True, (AV.p (.c (.v (.bool ((D_cmp_isNaN_int_ x0))))) = AV.p (.c (.v (.bool false))))] gamOK hT h (by kernel_rfl) ⟨trivial, hint_bool (h1), trivial⟩ ?_
    intro a w h
    refine then_normal ?_
    refine wp_ret ?_
    exact at_return (S := S_cmp_Less_int_) (x := (x0, x1, ())) (decide (x0 < x1), ()) [] h (by kernel_rfl) trivial (congrArg (fun z => (z, ())) (show (decide (x0 < x1)) = D_cmp_Less_int_ x0 x1 from by unfold D_cmp_Less_int_; simp_all [D_cmp_isNaN_int_]))

def D_slices_BinarySearch_S_int_int_ := (fun (xs : List Int) (v : Int) => (((bsF (ltAt xs v) 0 xs.length : Nat) : Int), decide (bsF (ltAt xs v) 0 xs.length < xs.length ∧ xs.getD (bsF (ltAt xs v) 0 xs.length) 0 = v)))
def S_slices_BinarySearch_S_int_int_ : Sum := { fid := 117, dom := [s34, (.int 3)], cod := [(.int 3), (.bool 4)], dp := true, fz := false, pre := fun x => (fun (x0 : (List Int)) (x1 : Int) => Sh.fit s34 x0) x.1 x.2.1, g := fun x => ((D_slices_BinarySearch_S_int_int_ x.1 x.2.1).1, ((D_slices_BinarySearch_S_int_int_ x.1 x.2.1).2, ())) }
def S_slices_BinarySearch_S_int_int__tab : List (Nat × Sum) := [(162, S_cmp_Less_int_), (163, S_slices_isNaN_int_)]
theorem S_slices_BinarySearch_S_int_int__ok : FnOK Try.prog 117 S_slices_BinarySearch_S_int_int_ := by
  refine at_enter 54 (fun x => ⟨[(0, aF (.int 3) x.1), (1, aI x.2.1)], []⟩) Try.func117 rfl (by kernel_rfl) (fun x => rfl) ?_
  rintro w0 Z0 ⟨x0, x1, u⟩ a w
  revert x0 x1
  intro (x0 : (List Int)) (x1 : Int) hpre hlens h
  replace h : At w0 Z0 [] 54 ⟨[(0, aF (.int 3) x0), (1, aI x1)], []⟩ a w := h
  replace hpre : (fun (x0 : (List Int)) (x1 : Int) => Sh.fit s34 x0) x0 x1 := hpre
  have hl1 : List.length x0 ≤ 9223372036854775807 := hlens.1.1
  have hT : TabOK Try.prog S_slices_BinarySearch_S_int_int__tab := (.cons S_cmp_Less_int__ok (.cons S_slices_isNaN_int__ok .nil))
  have hf0 : Sh.fit s34 x0 := hpre
  have hn0_1 : List.length x0 ≤ 1073741824 := hf0.1
  refine wp_seq ?_
  refine at_regq (T := S_slices_BinarySearch_S_int_int__tab) [] { ts := [0, 1, 4, 5], os := [] } [] gamOK hT h (by kernel_rfl) trivial ?_
  intro a w h
  refine then_normal ?_
  refine wp_seq ?_
  refine at_regq (T := S_slices_BinarySearch_S_int_int__tab) [] { ts := [0, 1, 4, 5, 6], os := [] } [] gamOK hT h (by kernel_rfl) trivial ?_
  intro a w h
  refine then_normal ?_
  refine wp_seq ?_
  refine at_regq (T := S_slices_BinarySearch_S_int_int__tab) [] { ts := [0, 1, 4, 5, 6, 7, 8], os := [] } [] gamOK hT h (by kernel_rfl) trivial ?_
  intro a w h
  refine then_normal ?_
  refine wp_seq ?_
  refine wp_block ?_
  replace h := at_out (σ' := ⟨[(0, aF (.int 3) x0), (1, aI x1), (4, aI 0), (5, aB false), (6, aI ((List.length x0 : Nat) : Int)), (7, aI 0), (8, aI ((List.length x0 : Nat) : Int))], []⟩) { ts := [0, 1, 4, 5, 6, 7, 8], os := [] } h (by kernel_rfl)
  refine at_loop (fun q : (Nat × Nat) => (⟨[(0, aF (.int 3) x0), (1, aI x1), (4, aI 0), (5, aB false), (6, aI ((List.length x0 : Nat) : Int)), (7, aI ((q.1 : Nat) : Int)), (8, aI ((q.2 : Nat) : Int))], []⟩ : St)) (fun q => (q.1 ≤ q.2 ∧ q.2 ≤ List.length x0 ∧ bsF (ltAt x0 x1) q.1 q.2 = bsF (ltAt x0 x1) 0 (List.length x0))) (fun q => q.2 - q.1) ((0, List.length x0)) h (st_congr2 (fun (d0 : Int) (d1 : Int) => (⟨[(0, aF (.int 3) x0), (1, aI x1), (4, aI 0), (5, aB false), (6, aI ((List.length x0 : Nat) : Int)), (7, aI d0), (8, aI d1)], []⟩ : St)) (show (0 : Int) = ((((0, List.length x0)).1 : Nat) : Int) from by first | with_reducible rfl | (rfl) | rfl) (show (((List.length x0 : Nat) : Int) : Int) = ((((0, List.length x0)).2 : Nat) : Int) from by first | with_reducible rfl | (rfl) | rfl)) (by exact ⟨Nat.zero_le _, Nat.le_refl _, rfl⟩) ?_
  intro q a w hok0 h
  refine wp_seq ?_
  refine wp_seq ?_
  refine at_reg (T := S_slices_BinarySearch_S_int_int__tab) [] { ts := [0, 1, 4, 5, 6, 7, 8, 15], os := [] } ⟨[(0, aF (.int 3) x0), (1, aI x1), (4, aI 0), (5, aB false), (6, aI ((List.length x0 : Nat) : Int)), (7, aI ((q.1 : Nat) : Int)), (8, aI ((q.2 : Nat) : Int)), (15, aB (decide (((q.1 : Nat) : Int) < ((q.2 : Nat) : Int))))], []⟩ [] gamOK hT h (by kernel_rfl) trivial ?_
  intro a w h
  refine then_normal ?_
  refine at_test (decide (((q.1 : Nat) : Int) < ((q.2 : Nat) : Int))) h (by kernel_rfl) (fun h1 => ?_) (fun h1 => ?_)
  · replace h1 : ((q.1 : Nat) : Int) < ((q.2 : Nat) : Int) := of_decide_eq_true h1
    refine wp_skip ?_
    refine then_normal ?_
    refine wp_block ?_
    refine wp_seq ?_
    refine at_regq (T := S_slices_BinarySearch_S_int_int__tab) [{}, {}, { nw := true }, {}, {}, { hint := some (aI (((q.1 + q.2) / 2 : Nat) : Int)) }] { ts := [0, 1, 4, 5, 6, 7, 8, 9], os := [] } [I64 (((q.1 : Nat) : Int) + ((q.2 : Nat) : Int)), (0 : Int) ≤ 1, (AV.p (.c (.v (.int .i64 (IntKind.i64.wrap ((Int.fdiv (IntKind.u64.wrap (((q.1 : Nat) : Int) + ((q.2 : Nat) : Int))) (2 ^ (min (1 : Int).toNat (IntKind.u64).bits)))))))) = AV.p (.c (.v (.int .i64 ((((q.1 + q.2) / 2 : Nat) : Int))))))] gamOK hT h (by kernel_rfl) ⟨⟨by first | omega | (simp only [List.length_append, List.length_cons, List.length_nil, List.length_set, List.length_take, List.length_drop, List.length_replicate, List.length_map, Nat.min_def]; omega) | (simp; done) | (simp; omega) | done, by first | omega | (simp only [List.length_append, List.length_cons, List.length_nil, List.length_set, List.length_take, List.length_drop, List.length_replicate, List.length_map, Nat.min_def]; omega) | (simp; done) | (simp; omega) | done⟩, (by first | omega | (simp only [List.length_append, List.length_cons, List.length_nil, List.length_set, List.length_take, List.length_drop, List.length_replicate, List.length_map, Nat.min_def]; omega) | (simp; done) | (simp; omega) | done), hint_int (by exact half_eq (by omega)), trivial⟩ ?_
    intro a w h
    refine then_normal ?_
    refine wp_seq ?_
    refine at_regq (T := S_slices_BinarySearch_S_int_int__tab) [] { ts := [0, 1, 4, 5, 6, 7, 8, 9, 27], os := [] } [(0 : Int) ≤ (((q.1 + q.2) / 2 : Nat) : Int) ∧ (((q.1 + q.2) / 2 : Nat) : Int) < ((List.length x0 : Nat) : Int), True] gamOK hT h (by kernel_rfl) ⟨(by refine ⟨?_, ?_⟩ <;> (first | omega | (simp only [List.length_append, List.length_cons, List.length_nil, List.length_set, List.length_take, List.length_drop, List.length_replicate, List.length_map, Nat.min_def]; omega) | (simp; done) | (simp; omega) | done)), trivial, trivial⟩ ?_
    intro a w h
    refine then_normal ?_
    refine at_test ((D_cmp_Less_int_ (x0.getD ((q.1 + q.2) / 2) 0) x1)) h (by kernel_rfl) (fun h2 => ?_) (fun h2 => ?_)
    · refine at_regq (T := S_slices_BinarySearch_S_int_int__tab) [{}, { nw := true }] { ts := [0, 1, 4, 5, 6, 7, 8], os := [] } [I64 ((((q.1 + q.2) / 2 : Nat) : Int) + 1)] gamOK hT h (by kernel_rfl) ⟨⟨by first | omega | (simp only [List.length_append, List.length_cons, List.length_nil, List.length_set, List.length_take, List.length_drop, List.length_replicate, List.length_map, Nat.min_def]; omega) | (simp; done) | (simp; omega) | done, by first | omega | (simp only [List.length_append, List.length_cons, List.length_nil, List.length_set, List.length_take, List.length_drop, List.length_replicate, List.length_map, Nat.min_def]; omega) | (simp; done) | (simp; omega) | done⟩, trivial⟩ ?_
      intro a w h
      refine in_normal ?_
      replace h := at_out (σ' := ⟨[(0, aF (.int 3) x0), (1, aI x1), (4, aI 0), (5, aB false), (6, aI ((List.length x0 : Nat) : Int)), (7, aI ((((q.1 + q.2) / 2 : Nat) : Int) + 1)), (8, aI ((q.2 : Nat) : Int))], []⟩) { ts := [0, 1, 4, 5, 6, 7, 8], os := [] } h (by kernel_rfl)
      exact ⟨((q.1 + q.2) / 2 + 1, q.2), at_eq h (st_congr2 (fun (d0 : Int) (d1 : Int) => (⟨[(0, aF (.int 3) x0), (1, aI x1), (4, aI 0), (5, aB false), (6, aI ((List.length x0 : Nat) : Int)), (7, aI d0), (8, aI d1)], []⟩ : St)) (show ((((q.1 + q.2) / 2 : Nat) : Int) + 1 : Int) = (((((q.1 + q.2) / 2 + 1, q.2)).1 : Nat) : Int) from by first | with_reducible rfl | (dsimp only; omega) | rfl) (show (((q.2 : Nat) : Int) : Int) = (((((q.1 + q.2) / 2 + 1, q.2)).2 : Nat) : Int) from by first | with_reducible rfl | (dsimp only; omega) | rfl)), (by dsimp only; first | (refine ⟨by omega, by omega, ?_⟩; exact (bsF_up (by omega) (show ltAt x0 x1 _ = true from h2)).symm.trans hok0.2.2) | (refine ⟨by omega, by omega, ?_⟩; exact (bsF_down (by omega) (show ltAt x0 x1 _ = false from h2)).symm.trans hok0.2.2)), (by dsimp only; omega)⟩
    · refine at_regq (T := S_slices_BinarySearch_S_int_int__tab) [] { ts := [0, 1, 4, 5, 6, 7, 8], os := [] } [] gamOK hT h (by kernel_rfl) trivial ?_
      intro a w h
      refine in_normal ?_
      replace h := at_out (σ' := ⟨[(0, aF (.int 3) x0), (1, aI x1), (4, aI 0), (5, aB false), (6, aI ((List.length x0 : Nat) : Int)), (7, aI ((q.1 : Nat) : Int)), (8, aI (((q.1 + q.2) / 2 : Nat) : Int))], []⟩) { ts := [0, 1, 4, 5, 6, 7, 8], os := [] } h (by kernel_rfl)
      exact ⟨(q.1, (q.1 + q.2) / 2), at_eq h (st_congr2 (fun (d0 : Int) (d1 : Int) => (⟨[(0, aF (.int 3) x0), (1, aI x1), (4, aI 0), (5, aB false), (6, aI ((List.length x0 : Nat) : Int)), (7, aI d0), (8, aI d1)], []⟩ : St)) (show (((q.1 : Nat) : Int) : Int) = ((((q.1, (q.1 + q.2) / 2)).1 : Nat) : Int) from by first | with_reducible rfl | (dsimp only; omega) | rfl) (show ((((q.1 + q.2) / 2 : Nat) : Int) : Int) = ((((q.1, (q.1 + q.2) / 2)).2 : Nat) : Int) from by first | with_reducible rfl | (dsimp only; omega) | rfl)), (by dsimp only; first | (refine ⟨by omega, by omega, ?_⟩; exact (bsF_up (by omega) (show ltAt x0 x1 _ = true from h2)).symm.trans hok0.2.2) | (refine ⟨by omega, by omega, ?_⟩; exact (bsF_down (by omega) (show ltAt x0 x1 _ = false from h2)).symm.trans hok0.2.2)), (by dsimp only; omega)⟩
  · replace h1 : ¬ (((q.1 : Nat) : Int) < ((q.2 : Nat) : Int)) := of_decide_eq_false h1
    refine wp_exit ?_
    refine then_exit ?_
    refine then_exit ?_
    refine in_hit ?_
    refine then_normal ?_
    refine wp_seq ?_
    by_cases h3 : ((q.1 : Nat) : Int) < ((List.length x0 : Nat) : Int)
    · skip
      by_cases h4 : (x0.getD q.1 0) = x1
      · skip
        refine at_regq (T := S_slices_BinarySearch_S_int_int__tab) [{}, {}, {}, { hint := some (aB true) }, {}, {}, {}, {}, {}, {}, { hint := some (aB true) }] { ts := [4, 5], os := [] } [(AV.p (.c (.v (.bool (decide (((q.1 : Nat) : Int) < ((List.length x0 : Nat) : Int)))))) = AV.p (.c (.v (.bool true)))), (0 : Int) ≤ ((q.1 : Nat) : Int) ∧ ((q.1 : Nat) : Int) < ((List.length x0 : Nat) : Int), (AV.p (.c (.v (.bool (decide ((x0.getD q.1 0) = x1))))) = AV.p (.c (.v (.bool true))))] gamOK hT h (by kernel_rfl) ⟨hint_bool (decide_eq_true h3), (by refine ⟨?_, ?_⟩ <;> (first | omega | (simp only [List.length_append, List.length_cons, List.length_nil, List.length_set, List.length_take, List.length_drop, List.length_replicate, List.length_map, Nat.min_def]; omega) | (simp; done) | (simp; omega) | done)), hint_bool (decide_eq_true h4), trivial⟩ ?_
        intro a w h
        refine then_normal ?_
        refine wp_ret ?_
        exact at_return (S := S_slices_BinarySearch_S_int_int_) (x := (x0, x1, ())) (((q.1 : Nat) : Int), (true, ())) [] h (by kernel_rfl) trivial (congrArg (fun z => (z.1, z.2, ())) (show ((((q.1 : Nat) : Int), true)) = D_slices_BinarySearch_S_int_int_ x0 x1 from by unfold D_slices_BinarySearch_S_int_int_; (have e := hok0.2.2; rw [bsF_end (by omega)] at e; rw [← e] at *; first | (simp_all [D_slices_isNaN_int_]; done) | (simp_all [D_slices_isNaN_int_]; omega))))
      · skip
        rcases Bool.eq_false_or_eq_true ((D_slices_isNaN_int_ (x0.getD q.1 0))) with h5 | h5
        · skip
          refine at_regq (T := S_slices_BinarySearch_S_int_int__tab) [{}, {}, {}, { hint := some (aB true) }, {}, {}, {}, {}, {}, {}, { hint := some (aB false) }, {}, {}, {}, {}, {}, { hint := some (aB true) }] { ts := [4, 5], os := [] } [(AV.p (.c (.v (.bool (decide (((q.1 : Nat) : Int) < ((List.length x0 : Nat) : Int)))))) = AV.p (.c (.v (.bool true)))), (0 : Int) ≤ ((q.1 : Nat) : Int) ∧ ((q.1 : Nat) : Int) < ((List.length x0 : Nat) : Int), (AV.p (.c (.v (.bool (decide ((x0.getD q.1 0) = x1))))) = AV.p (.c (.v (.bool false)))), (0 : Int) ≤ ((q.1 : Nat) : Int) ∧ ((q.1 : Nat) : Int) < ((List.length x0 : Nat) : Int), True, (AV.p (.c (.v (.bool ((D_slices_isNaN_int_ (x0.getD q.1 0)))))) = AV.p (.c (.v (.bool true)))), True] gamOK hT h (by kernel_rfl) ⟨hint_bool (decide_eq_true h3), (by refine ⟨?_, ?_⟩ <;> (first | omega | (simp only [List.length_append, List.length_cons, List.length_nil, List.length_set, List.length_take, List.length_drop, List.length_replicate, List.length_map, Nat.min_def]; omega) | (simp; done) | (simp; omega) | done)), hint_bool (decide_eq_false h4), (by refine ⟨?_, ?_⟩ <;> (first | omega | (simp only [List.length_append, List.length_cons, List.length_nil, List.length_set, List.length_take, List.length_drop, List.length_replicate, List.length_map, Nat.min_def]; omega) | (simp; done) | (simp; omega) | done)), trivial, hint_bool (h5), trivial, trivial⟩ ?_
          intro a w h
          refine then_normal ?_
          refine wp_ret ?_
          exact at_return (S := S_slices_BinarySearch_S_int_int_) (x := (x0, x1, ())) (((q.1 : Nat) : Int), ((D_slices_isNaN_int_ x1), ())) [] h (by kernel_rfl) trivial (congrArg (fun z => (z.1, z.2, ())) (show ((((q.1 : Nat) : Int), (D_slices_isNaN_int_ x1))) = D_slices_BinarySearch_S_int_int_ x0 x1 from by unfold D_slices_BinarySearch_S_int_int_; (have e := hok0.2.2; rw [bsF_end (by omega)] at e; rw [← e] at *; first | (simp_all [D_slices_isNaN_int_]; done) | (simp_all [D_slices_isNaN_int_]; omega))))
        · skip
          refine at_regq (T := S_slices_BinarySearch_S_int_int__tab) [{}, {}, {}, { hint := some (aB true) }, {}, {}, {}, {}, {}, {}, { hint := some (aB false) }, {}, {}, {}, {}, {}, { hint := some (aB false) }] { ts := [4, 5], os := [] } [(AV.p (.c (.v (.bool (decide (((q.1 : Nat) : Int) < ((List.length x0 : Nat) : Int)))))) = AV.p (.c (.v (.bool true)))), (0 : Int) ≤ ((q.1 : Nat) : Int) ∧ ((q.1 : Nat) : Int) < ((List.length x0 : Nat) : Int), (AV.p (.c (.v (.bool (decide ((x0.getD q.1 0) = x1))))) = AV.p (.c (.v (.bool false)))), (0 : Int) ≤ ((q.1 : Nat) : Int) ∧ ((q.1 : Nat) : Int) < ((List.length x0 : Nat) : Int), True, (AV.p (.c (.v (.bool ((D_slices_isNaN_int_ (x0.getD q.1 0)))))) = AV.p (.c (.v (.bool false))))] gamOK hT h (by kernel_rfl) ⟨hint_bool (decide_eq_true h3), (by refine ⟨?_, ?_⟩ <;> (first | omega | (simp only [List.length_append, List.length_cons, List.length_nil, List.length_set, List.length_take, List.length_drop, List.length_replicate, List.length_map, Nat.min_def]; omega) | (simp; done) | (simp; omega) | done)), hint_bool (decide_eq_false h4), (by refine ⟨?_, ?_⟩ <;> (first | omega | (simp only [List.length_append, List.length_cons, List.length_nil, List.length_set, List.length_take, List.length_drop, List.length_replicate, List.length_map, Nat.min_def]; omega) | (simp; done) | (simp; omega) | done)), trivial, hint_bool (h5), trivial⟩ ?_
          intro a w h
          refine then_normal ?_
          refine wp_ret ?_
          exact at_return (S := S_slices_BinarySearch_S_int_int_) (x := (x0, x1, ())) (((q.1 : Nat) : Int), (false, ())) [] h (by kernel_rfl) trivial (congrArg (fun z => (z.1, z.2, ())) (show ((((q.1 : Nat) : Int), false)) = D_slices_BinarySearch_S_int_int_ x0 x1 from by unfold D_slices_BinarySearch_S_int_int_; (have e := hok0.2.2; rw [bsF_end (by omega)] at e; rw [← e] at *; first | (simp_all [D_slices_isNaN_int_]; done) | (simp_all [D_slices_isNaN_int_]; omega))))
    · skip
      refine at_regq (T := S_slices_BinarySearch_S_int_int__tab) [{}, {}, {}, { hint := some (aB false) }] { ts := [4, 5], os := [] } [(AV.p (.c (.v (.bool (decide (((q.1 : Nat) : Int) < ((List.length x0 : Nat) : Int)))))) = AV.p (.c (.v (.bool false))))] gamOK hT h (by kernel_rfl) ⟨hint_bool (decide_eq_false h3), trivial⟩ ?_
      intro a w h
      refine then_normal ?_
      refine wp_ret ?_
      exact at_return (S := S_slices_BinarySearch_S_int_int_) (x := (x0, x1, ())) (((q.1 : Nat) : Int), (false, ())) [] h (by kernel_rfl) trivial (congrArg (fun z => (z.1, z.2, ())) (show ((((q.1 : Nat) : Int), false)) = D_slices_BinarySearch_S_int_int_ x0 x1 from by unfold D_slices_BinarySearch_S_int_int_; (have e := hok0.2.2; rw [bsF_end (by omega)] at e; rw [← e] at *; first | (simp_all [D_slices_isNaN_int_]; done) | (simp_all [D_slices_isNaN_int_]; omega))))
theorem bs_fact (xs : List Int) (v : Int) : 0 ≤ (D_slices_BinarySearch_S_int_int_ xs v).1 ∧ (D_slices_BinarySearch_S_int_int_ xs v).1 ≤ ((List.length xs : Nat) : Int) := by
  have := bsF_bd (ltAt xs v) xs.length 0 xs.length (by omega) (by omega)
  unfold D_slices_BinarySearch_S_int_int_
  dsimp only
  omega
theorem bs_true {xs : List Int} {v : Int} (h : (D_slices_BinarySearch_S_int_int_ xs v).2 = true) : (D_slices_BinarySearch_S_int_int_ xs v).1 < ((List.length xs : Nat) : Int) := by
  unfold D_slices_BinarySearch_S_int_int_ at h ⊢
  dsimp only at h ⊢
  have := (of_decide_eq_true h).1
  omega

section
open Go.Shelf Go.Lib
set_option maxRecDepth 100000 in
theorem insA145 (w : World) (A : Option Addr) (n c gu m cu : Nat) (hm : 0 < m) (hnc : n ≤ c) (hc : c ≤ 9223372036854775807) (hA : A = none → c = 0) (v' : Value) (w' : World)
    (hrun : ∀ ty, (Builtin.append_ #[34, 34] ty #[.slice A n c, .slice (some ⟨gu, 0, none⟩) m cu]).run Try.prog w = .ok v' w') :
    Calls Try.prog 145 #[.slice A n c, .int .i64 n, .slice (some ⟨gu, 0, none⟩) m cu] w fun e w'' => e = .returned v' ∧ w'' = w' := by
  have u34 := run_underlying Try.underlying34
  have hz1 : ¬ ((m : Int) = 0) := by omega
  go_enter Try.func145, Try.ntmps145
  go_wp2_with (at_builtin; refine Lib.wpList_append_run _ rfl _ _ _ _ rfl _ _ rfl rfl _ _ (hrun _) ?_)
  all_goals (go_ret; exact ⟨rfl, rfl⟩)
set_option maxRecDepth 100000 in
theorem insB145 (w : World) (g n c i gu m cu W C : Nat) (hm : 0 < m) (hi : i < n) (hnc : n ≤ c) (hroom : c < n + m) (hbig : n + m ≤ 9223372036854775807) (hC : n + m ≤ C) (w1 w2 w3 : World) (x1 x2 : Value)
    (hrun0 : ∀ ty, (Builtin.append_ #[34, 3] ty #[.slice (some ⟨g, 0, none⟩) i c, .int .i64 ((n : Int) + (m : Int) - (i : Int))]).run Try.prog w = .ok (.slice (some ⟨W, 0, none⟩) (n + m) C) w1)
    (hrun1 : ∀ ty, (Builtin.copy_ #[34, 34] ty #[.slice (some ⟨W, i, none⟩) (n + m - i) (C - i), .slice (some ⟨gu, 0, none⟩) m cu]).run Try.prog w1 = .ok x1 w2)
    (hrun2 : ∀ ty, (Builtin.copy_ #[34, 34] ty #[.slice (some ⟨W, i + m, none⟩) (n + m - (i + m)) (C - (i + m)), .slice (some ⟨g, i, none⟩) (n - i) (c - i)]).run Try.prog w2.drew = .ok x2 w3) :
    Calls Try.prog 145 #[.slice (some ⟨g, 0, none⟩) n c, .int .i64 i, .slice (some ⟨gu, 0, none⟩) m cu] w fun e w'' => e = .returned (.slice (some ⟨W, 0, none⟩) (n + m) C) ∧ w'' = w3 := by
  have u34 := run_underlying Try.underlying34
  have u3 := run_underlying Try.underlying3
  have hz1 : ¬ ((m : Int) = 0) := by omega
  have hz2 : ¬ ((i : Int) = (n : Int)) := by omega
  have hz3 : (c : Int) < (n : Int) + (m : Int) := by omega
  have hw0 : IntKind.i64.wrap ((n : Int) + (m : Int)) = (n : Int) + (m : Int) := by rw [IntKind.wrap_i64]; omega
  have hw2 : IntKind.i64.wrap ((n : Int) + (m : Int) - (i : Int)) = (n : Int) + (m : Int) - (i : Int) := by rw [IntKind.wrap_i64]; omega
  have hw1 : IntKind.i64.wrap ((i : Int) + (m : Int)) = (i : Int) + (m : Int) := by rw [IntKind.wrap_i64]; omega
  have hb1 : (0 : Int) ≤ (i : Int) + (m : Int) := by omega
  have hin : i ≤ n := by omega
  have hic : i ≤ c := by omega
  have hinm : i ≤ n + m := by omega
  have htn : ((i : Int) + (m : Int)).toNat = i + m := by omega
  have hb2 : ¬ (C = i + m) := by omega
  have hb5 : ¬ (C = i) := by omega
  have hb3 : (i : Int) ≤ (n : Int) + (m : Int) := by omega
  have hb4 : ¬ (c = i) := by omega
  have mixed : Try.prog.follows .mixedOrders = true := by kernel_rfl
  go_enter Try.func145, Try.ntmps145
  go_wp2_with (first
    | (at_builtin; refine Lib.wpList_append_run _ rfl _ _ _ _ rfl _ _ rfl rfl _ _ (hrun0 _) ?_)
    | (at_builtin; refine wpList_copy_runI _ rfl _ _ _ _ rfl _ _ rfl rfl (hrun1 _) ?_))
  go_region_law_o (refine step_copy_runI rfl _ _ 34 34 rfl _ _ (by simp [Act.eval, Act.put]) (by simp [Act.eval, Act.put]) (hrun2 _) ?_)
  go_wp2_with (fail)
  go_ret
  exact ⟨rfl, rfl⟩
set_option maxRecDepth 100000 in
theorem insC145 (w : World) (g n c i gu m cu : Nat) (hm : 0 < m) (hi : i < n) (hroom : n + m ≤ c) (hc : c ≤ 9223372036854775807) (hne : gu ≠ g) (tA tB : TypeId) (kA kB : Nat) (hsa : w.shape? gu = some (tA, kA)) (hsb : w.shape? g = some (tB, kB)) (hkB : kB ≠ 0) (hfa : w.frozen? ⟨gu, 0, none⟩ = false) (hfe : w.frozen? ⟨gu, kA, none⟩ = false)
    (w1 w2 : World) (x1 x2 : Value)
    (hrun1 : ∀ ty, (Builtin.copy_ #[34, 34] ty #[.slice (some ⟨g, i + m, none⟩) (n + m - (i + m)) (c - (i + m)), .slice (some ⟨g, i, none⟩) (n + m - i) (c - i)]).run Try.prog w.drew = .ok x1 w1)
    (hrun2 : ∀ ty, (Builtin.copy_ #[34, 34] ty #[.slice (some ⟨g, i, none⟩) (n + m - i) (c - i), .slice (some ⟨gu, 0, none⟩) m cu]).run Try.prog w1 = .ok x2 w2) :
    Calls Try.prog 145 #[.slice (some ⟨g, 0, none⟩) n c, .int .i64 i, .slice (some ⟨gu, 0, none⟩) m cu] w fun e w'' => e = .returned (.slice (some ⟨g, 0, none⟩) (n + m) c) ∧ w'' = w2 := by
  have u34 := run_underlying Try.underlying34
  have u3 := run_underlying Try.underlying3
  have hz1 : ¬ ((m : Int) = 0) := by omega
  have hz2 : ¬ ((i : Int) = (n : Int)) := by omega
  have hz3 : ¬ ((c : Int) < (n : Int) + (m : Int)) := by omega
  have hw0 : IntKind.i64.wrap ((n : Int) + (m : Int)) = (n : Int) + (m : Int) := by rw [IntKind.wrap_i64]; omega
  have hw1 : IntKind.i64.wrap ((i : Int) + (m : Int)) = (i : Int) + (m : Int) := by rw [IntKind.wrap_i64]; omega
  have hb1 : (0 : Int) ≤ (i : Int) + (m : Int) := by omega
  have hb0 : (0 : Int) ≤ (n : Int) + (m : Int) := by omega
  have hb6 : (n : Int) + (m : Int) ≤ (c : Int) := by omega
  have hin : i ≤ n := by omega
  have hic : i ≤ c := by omega
  have hinm : i ≤ n + m := by omega
  have htn : ((i : Int) + (m : Int)).toNat = i + m := by omega
  have htn2 : ((n : Int) + (m : Int)).toNat = n + m := by omega
  have hb2 : ¬ (c = i + m) := by omega
  have hb3 : (i : Int) ≤ (n : Int) + (m : Int) := by omega
  have hb4 : ¬ (c = i) := by omega
  have mixed : Try.prog.follows .mixedOrders = true := by kernel_rfl
  have hsz : ∀ w, (Go.sizeOf 3).run Try.prog w = .ok 1 w := fun w => size_run (P := Try.prog) (t := 3) (n := 1) (by kernel_rfl) w
  have hov : ∀ lb cb, (callFunc 180 #[.slice (some ⟨gu, 0, none⟩) m cu, .slice (some ⟨g, i + m, none⟩) lb cb]).run Try.prog w = .ok (.value (.bool false)) w := fun lb cb => by
    rw [run_callFunc_extern Try.func180 (by kernel_rfl) (by kernel_rfl) (by kernel_rfl) (e := Extern.SlicesOverlaps.overlaps #[34, 34] #[4]) (by kernel_rfl),
      Lib.run_overlaps_apart w 34 4 3 Try.underlying34 1 hsz ⟨gu, 0, none⟩ ⟨g, i + m, none⟩ m cu lb cb hne tA tB kA kB hsa hsb hkB hfa hfe]
    rfl
  go_enter Try.func145, Try.ntmps145
  go_wp2_with (simp only [hov])
  go_region_law_o (refine step_copy_runI rfl _ _ 34 34 rfl _ _ (by simp [Act.eval, Act.put]) (by simp [Act.eval, Act.put]) (hrun1 _) ?_)
  go_wp2_with (at_builtin; refine wpList_copy_runI _ rfl _ _ _ _ rfl _ _ rfl rfl (hrun2 _) ?_)
  go_ret
  exact ⟨rfl, rfl⟩

theorem insR145 : InsRoads Try.prog 145 34 3 1 := ⟨insA145, fun w g n c i gu m cu W C h1 h2 h3 h4 h5 h6 w1 w2 w3 x1 x2 a b d => insB145 w g n c i gu m cu W C h1 h2 h3 h4 h5 h6 w1 w2 w3 x1 x2 a (by simpa only [Nat.mul_one] using b) (by simpa only [Nat.mul_one] using d), fun w g n c i gu m cu h1 h2 h3 h4 h5 tA tB kA kB a1 a2 a3 a4 a5 w1 w2 x1 x2 b d => insC145 w g n c i gu m cu h1 h2 h3 h4 h5 tA tB kA kB a1 a2 a3 a4 a5 w1 w2 x1 x2 (by simpa only [Nat.mul_one] using b) (by simpa only [Nat.mul_one] using d)⟩
def D_slices_Insert_S_int_int_ (x0 : List Int) (x1 : Int) (x2 : List Int) : List Int := insAt x0 x1.toNat x2
def S_slices_Insert_S_int_int_ : Sum := insSum 145 34 3 (.int 3) 8
theorem S_slices_Insert_S_int_int__ok : FnOK Try.prog 145 S_slices_Insert_S_int_int_ := insert_ok (bytes := 8) (.int 3) insR145 (Elem.of (.int .i64 0) Try.underlying34 (by kernel_rfl) rfl (by decide) (by decide)) Try.underlying3
end

section
open Go.Shelf Go.Lib
set_option maxRecDepth 100000 in
theorem delA120 (w : World) (A : Option Addr) (n c i : Nat) (hi : i ≤ n) (hnc : n ≤ c) (hc : c ≤ 9223372036854775807) :
    Calls Try.prog 120 #[.slice A n c, .int .i64 i, .int .i64 i] w fun e w'' => e = .returned (.slice A n c) ∧ w'' = w := by
  have u34 := run_underlying Try.underlying34
  have h1 : (i : Int) ≤ (n : Int) := by omega
  have h2 : (n : Int) ≤ (c : Int) := by omega
  go_enter Try.func120, Try.ntmps120
  go_wp2_with (fail)
  all_goals (go_ret; exact ⟨rfl, rfl⟩)
set_option maxRecDepth 100000 in
theorem delB120 (w : World) (g n c i j : Nat) (hij : i < j) (hj : j ≤ n) (hnc : n ≤ c) (hc : c ≤ 9223372036854775807) (w1 w2 : World) (x2 : Value)
    (hrun1 : ∀ ty, (Builtin.append_ #[34, 34] ty #[.slice (some ⟨g, 0, none⟩) i c, .slice (if c = j then some ⟨g, 0, none⟩ else some ⟨g, j, none⟩) (n - j) (c - j)]).run Try.prog w.drew = .ok (.slice (some ⟨g, 0, none⟩) (i + (n - j)) c) w1)
    (hrun2 : ∀ ty, (Builtin.clear_ #[34] ty #[.slice (some ⟨g, i + (n - j), none⟩) (n - (i + (n - j))) (c - (i + (n - j)))]).run Try.prog w1 = .ok x2 w2) :
    Calls Try.prog 120 #[.slice (some ⟨g, 0, none⟩) n c, .int .i64 i, .int .i64 j] w fun e w'' => e = .returned (.slice (some ⟨g, 0, none⟩) (i + (n - j)) c) ∧ w'' = w2 := by
  have u34 := run_underlying Try.underlying34
  have h1 : (j : Int) ≤ (n : Int) := by omega
  have h2 : (n : Int) ≤ (c : Int) := by omega
  have h3 : (i : Int) ≤ (j : Int) := by omega
  have h4 : ¬ ((i : Int) = (j : Int)) := by omega
  have h5 : i ≤ c := by omega
  have h6 : j ≤ n := hj
  have h7 : ¬ (c = i + (n - j)) := by omega
  have h8 : i + (n - j) ≤ n := by omega
  have h9 : n ≤ c := hnc
  have mixed : Try.prog.follows .mixedOrders = true := by kernel_rfl
  go_enter Try.func120, Try.ntmps120
  go_wp2_with (fail)
  all_goals go_region_law_o (refine step_append_runI rfl _ _ 34 34 rfl _ _ (by simp [Act.eval, Act.put]) (by simp [Act.eval, Act.put]) (hrun1 _) ?_)
  all_goals go_wp2_with (at_builtin; refine wpList_clear_runI _ rfl _ _ rfl _ rfl (hrun2 _) ?_)
  all_goals (go_ret; exact ⟨rfl, rfl⟩)

theorem delR120 : DelRoads Try.prog 120 34 1 := ⟨delA120, fun w g n c i j h1 h2 h3 h4 w1 w2 x2 b d => delB120 w g n c i j h1 h2 h3 h4 w1 w2 x2 (by simpa only [Nat.mul_one] using b) (by simpa only [Nat.mul_one] using d)⟩
def D_slices_Delete_S_int_int_ (x0 : List Int) (x1 x2 : Int) : List Int := delAt x0 x1.toNat x2.toNat
def S_slices_Delete_S_int_int_ : Sum := delSum 120 34 3 3 (.int 3)
theorem S_slices_Delete_S_int_int__ok : FnOK Try.prog 120 S_slices_Delete_S_int_int_ := delete_ok (bytes := 8) (.int 3) delR120 (Elem.of (.int .i64 0) Try.underlying34 (by kernel_rfl) rfl (by decide) (by decide)) (by kernel_rfl)
end

def validGroup (x0 : T72) : Bool := (if (allN (grpP x0.2.2) (List.length x0.2.2)) = true then (if (isKey x0.1) = true then (inR x0.2.1 0 100000) else false) else false)
def S_impl_IsValidGroup : Sum := { fid := 118, dom := [s72], cod := [(.bool 4)], dp := true, fz := false, pre := fun x => (fun (x0 : T72) => Sh.fit s72 x0) x.1, g := fun x => ((validGroup x.1), ()) }
def S_impl_IsValidGroup_tab : List (Nat × Sum) := [(103, S_impl_InRange), (164, S_impl_IsValidKey)]
theorem S_impl_IsValidGroup_ok : FnOK Try.prog 118 S_impl_IsValidGroup := by
  refine at_enter 39 (fun x => ⟨[(0, aG [cI x.1.1, cI x.1.2.1, .ro (.int 3) x.1.2.2])], []⟩) Try.func118 rfl (by kernel_rfl) (fun x => rfl) ?_
  rintro w0 Z0 ⟨x0, u⟩ a w
  revert x0
  intro (x0 : T72) hpre hlens h
  replace h : At w0 Z0 [] 39 ⟨[(0, aG [cI x0.1, cI x0.2.1, .ro (.int 3) x0.2.2])], []⟩ a w := h
  replace hpre : (fun (x0 : T72) => Sh.fit s72 x0) x0 := hpre
  have hl1 : List.length x0.2.2 ≤ 9223372036854775807 := hlens.1.2.2.1
  have hT : TabOK Try.prog S_impl_IsValidGroup_tab := (.cons S_impl_InRange_ok (.cons S_impl_IsValidKey_ok .nil))
  have hf0 : Sh.fit s72 x0 := hpre
  have hn0_1 : List.length x0.2.2 ≤ 1073741824 := hf0.2.2.1
  refine wp_seq ?_
  refine at_regq (T := S_impl_IsValidGroup_tab) [{ ids := [1] }] { ts := [1, 2], os := [1] } [] gamOK hT h (by kernel_rfl) trivial ?_
  intro a w h
  refine then_normal ?_
  refine wp_seq ?_
  refine wp_seq ?_
  refine at_regq (T := S_impl_IsValidGroup_tab) [] { ts := [1, 2, 6, 7, 8], os := [1] } [] gamOK hT h (by kernel_rfl) trivial ?_
  intro a w h
  refine then_normal ?_
  refine wp_block ?_
  replace h := at_out (σ' := ⟨[(1, aP 1 0), (2, aB false), (6, aF (.int 3) x0.2.2), (7, aI ((List.length x0.2.2 : Nat) : Int)), (8, aI 0)], [(1, oX 72 [cI x0.1, cI x0.2.1, .ro (.int 3) x0.2.2])]⟩) { ts := [1, 2, 6, 7, 8], os := [1] } h (by kernel_rfl)
  refine at_loop (fun i : Nat => (⟨[(1, aP 1 0), (2, aB false), (6, aF (.int 3) x0.2.2), (7, aI ((List.length x0.2.2 : Nat) : Int)), (8, aI ((i : Nat) : Int))], [(1, oX 72 [cI x0.1, cI x0.2.1, .ro (.int 3) x0.2.2])]⟩ : St)) (fun i => (i ≤ (List.length x0.2.2) ∧ allN (grpP x0.2.2) i = true)) (fun i => (List.length x0.2.2) - i) (0) h (st_congr1 (fun (d0 : Int) => (⟨[(1, aP 1 0), (2, aB false), (6, aF (.int 3) x0.2.2), (7, aI ((List.length x0.2.2 : Nat) : Int)), (8, aI d0)], [(1, oX 72 [cI x0.1, cI x0.2.1, .ro (.int 3) x0.2.2])]⟩ : St)) (show (0 : Int) = (((0) : Nat) : Int) from by first | with_reducible rfl | (rfl) | rfl)) (by exact ⟨Nat.zero_le _, rfl⟩) ?_
  intro i a w hok0 h
  refine wp_seq ?_
  refine at_regq (T := S_impl_IsValidGroup_tab) [] { ts := [1, 2, 6, 7, 8, 9], os := [1] } [] gamOK hT h (by kernel_rfl) trivial ?_
  intro a w h
  refine then_normal ?_
  refine wp_seq ?_
  refine at_test (decide (((i : Nat) : Int) < ((List.length x0.2.2 : Nat) : Int))) h (by kernel_rfl) (fun h1 => ?_) (fun h1 => ?_)
  · replace h1 : ((i : Nat) : Int) < ((List.length x0.2.2 : Nat) : Int) := of_decide_eq_true h1
    refine wp_skip ?_
    refine then_normal ?_
    refine wp_seq ?_
    refine wp_block ?_
    refine wp_seq ?_
    refine at_reg (T := S_impl_IsValidGroup_tab) [] { ts := [1, 2, 3, 4, 6, 7, 8], os := [1] } ⟨[(1, aP 1 0), (2, aB false), (3, aI ((i : Nat) : Int)), (4, aI (x0.2.2.getD i 0)), (6, aF (.int 3) x0.2.2), (7, aI ((List.length x0.2.2 : Nat) : Int)), (8, aI ((i : Nat) : Int))], [(1, oX 72 [cI x0.1, cI x0.2.1, .ro (.int 3) x0.2.2])]⟩ [(0 : Int) ≤ ((i : Nat) : Int) ∧ ((i : Nat) : Int) < ((List.length x0.2.2 : Nat) : Int)] gamOK hT h (by kernel_rfl) ⟨(by refine ⟨?_, ?_⟩ <;> (first | omega | (simp only [List.length_append, List.length_cons, List.length_nil, List.length_set, List.length_take, List.length_drop, List.length_replicate, List.length_map, Nat.min_def]; omega) | (simp; done) | (simp; omega) | done)), trivial⟩ ?_
    intro a w h
    refine then_normal ?_
    refine wp_seq ?_
    rcases Bool.eq_false_or_eq_true (!(inR (x0.2.2.getD i 0) 0 7)) with h2 | h2
    · skip
      have hvh2 := inR_f (notT h2)
      refine at_regq (T := S_impl_IsValidGroup_tab) [{}, {}, { hint := some (aB true) }] { ts := [1, 2, 6, 7, 8, 17, 18, 19, 20, 21, 22, 23, 24, 25, 26, 27, 28, 29], os := [1] } [True, (AV.p (.c (.v (.bool (!(inR (x0.2.2.getD i 0) 0 7))))) = AV.p (.c (.v (.bool true))))] gamOK hT h (by kernel_rfl) ⟨trivial, hint_bool (h2), trivial⟩ ?_
      intro a w h
      refine then_normal ?_
      refine at_test true h (by kernel_rfl) (fun hh => ?_) (fun hh => nomatch hh)
      refine wp_seq ?_
      refine at_regq (T := S_impl_IsValidGroup_tab) [] { ts := [1, 2, 6, 7, 8, 17, 18, 19, 20, 21, 22, 23, 24, 25, 26, 27, 28], os := [1] } [] gamOK hT h (by kernel_rfl) trivial ?_
      intro a w h
      refine then_normal ?_
      refine wp_ret ?_
      refine in_ret ?_
      refine then_ret ?_
      have hs3 : (allN (grpP x0.2.2) (List.length x0.2.2)) = false := by exact allN_at (i := i) (by omega) (by exact grp_f (by omega))
      refine then_ret ?_
      refine in_ret ?_
      refine then_ret ?_
      exact at_return (S := S_impl_IsValidGroup) (x := (x0, ())) (false, ()) [] h (by kernel_rfl) trivial (congrArg (fun z => (z, ())) (show (false) = validGroup x0 from by first | rfl | (unfold validGroup; rw [if_neg (neT hs3)])))
    · skip
      have hvh2 := inR_t (notF h2)
      by_cases h4 : ((i : Nat) : Int) > 0
      · skip
        refine at_regq (T := S_impl_IsValidGroup_tab) [{}, {}, { hint := some (aB false) }, {}, {}, { hint := some (aB true) }, {}, {}, {}, {}, {}, { nw := true }] { ts := [1, 2, 6, 7, 8, 17, 18, 19, 20, 21, 22, 23, 24, 25, 26, 27, 28, 29], os := [1] } [True, (AV.p (.c (.v (.bool (!(inR (x0.2.2.getD i 0) 0 7))))) = AV.p (.c (.v (.bool false)))), (AV.p (.c (.v (.bool (decide (((i : Nat) : Int) > 0))))) = AV.p (.c (.v (.bool true)))), I64 (((i : Nat) : Int) - 1), (0 : Int) ≤ ((i : Nat) : Int) - 1 ∧ ((i : Nat) : Int) - 1 < ((List.length x0.2.2 : Nat) : Int)] gamOK hT h (by kernel_rfl) ⟨trivial, hint_bool (h2), hint_bool (decide_eq_true h4), ⟨by first | omega | (simp only [List.length_append, List.length_cons, List.length_nil, List.length_set, List.length_take, List.length_drop, List.length_replicate, List.length_map, Nat.min_def]; omega) | (simp; done) | (simp; omega) | done, by first | omega | (simp only [List.length_append, List.length_cons, List.length_nil, List.length_set, List.length_take, List.length_drop, List.length_replicate, List.length_map, Nat.min_def]; omega) | (simp; done) | (simp; omega) | done⟩, (by refine ⟨?_, ?_⟩ <;> (first | omega | (simp only [List.length_append, List.length_cons, List.length_nil, List.length_set, List.length_take, List.length_drop, List.length_replicate, List.length_map, Nat.min_def]; omega) | (simp; done) | (simp; omega) | done)), trivial⟩ ?_
        intro a w h
        refine then_normal ?_
        refine at_test (decide ((x0.2.2.getD i 0) ≤ (x0.2.2.getD ((((i : Nat) : Int) - 1).toNat) 0))) h (by kernel_rfl) (fun h5 => ?_) (fun h5 => ?_)
        · replace h5 : (x0.2.2.getD i 0) ≤ (x0.2.2.getD ((((i : Nat) : Int) - 1).toNat) 0) := of_decide_eq_true h5
          refine wp_seq ?_
          refine at_regq (T := S_impl_IsValidGroup_tab) [] { ts := [1, 2, 6, 7, 8, 17, 18, 19, 20, 21, 22, 23, 24, 25, 26, 27, 28], os := [1] } [] gamOK hT h (by kernel_rfl) trivial ?_
          intro a w h
          refine then_normal ?_
          refine wp_ret ?_
          refine in_ret ?_
          refine then_ret ?_
          have hs6 : (allN (grpP x0.2.2) (List.length x0.2.2)) = false := by exact allN_at (i := i) (by omega) (by exact grp_f (by omega))
          refine then_ret ?_
          refine in_ret ?_
          refine then_ret ?_
          exact at_return (S := S_impl_IsValidGroup) (x := (x0, ())) (false, ()) [] h (by kernel_rfl) trivial (congrArg (fun z => (z, ())) (show (false) = validGroup x0 from by first | rfl | (unfold validGroup; rw [if_neg (neT hs6)])))
        · replace h5 : ¬ ((x0.2.2.getD i 0) ≤ (x0.2.2.getD ((((i : Nat) : Int) - 1).toNat) 0)) := of_decide_eq_false h5
          refine wp_skip ?_
          refine in_normal ?_
          refine then_normal ?_
          refine at_regq (T := S_impl_IsValidGroup_tab) [{ nw := true }] { ts := [1, 2, 6, 7, 8, 17, 18, 19, 20, 21, 22, 23, 24, 25, 26, 27, 28], os := [1] } [I64 (((i : Nat) : Int) + 1)] gamOK hT h (by kernel_rfl) ⟨⟨by first | omega | (simp only [List.length_append, List.length_cons, List.length_nil, List.length_set, List.length_take, List.length_drop, List.length_replicate, List.length_map, Nat.min_def]; omega) | (simp; done) | (simp; omega) | done, by first | omega | (simp only [List.length_append, List.length_cons, List.length_nil, List.length_set, List.length_take, List.length_drop, List.length_replicate, List.length_map, Nat.min_def]; omega) | (simp; done) | (simp; omega) | done⟩, trivial⟩ ?_
          intro a w h
          replace h := at_out (σ' := ⟨[(1, aP 1 0), (2, aB false), (6, aF (.int 3) x0.2.2), (7, aI ((List.length x0.2.2 : Nat) : Int)), (8, aI (((i : Nat) : Int) + 1))], [(1, oX 72 [cI x0.1, cI x0.2.1, .ro (.int 3) x0.2.2])]⟩) { ts := [1, 2, 6, 7, 8], os := [1] } h (by kernel_rfl)
          exact ⟨i + 1, at_eq h (st_congr1 (fun (d0 : Int) => (⟨[(1, aP 1 0), (2, aB false), (6, aF (.int 3) x0.2.2), (7, aI ((List.length x0.2.2 : Nat) : Int)), (8, aI d0)], [(1, oX 72 [cI x0.1, cI x0.2.1, .ro (.int 3) x0.2.2])]⟩ : St)) (show (((i : Nat) : Int) + 1 : Int) = (((i + 1) : Nat) : Int) from by first | with_reducible rfl | (omega) | rfl)), (by exact ⟨by omega, allN_succ hok0.2 (by exact grp_t (by omega) (by omega))⟩), (by omega)⟩
      · skip
        refine at_regq (T := S_impl_IsValidGroup_tab) [{}, {}, { hint := some (aB false) }, {}, {}, { hint := some (aB false) }] { ts := [1, 2, 6, 7, 8, 17, 18, 19, 20, 21, 22, 23, 24, 25, 26, 27, 28, 29], os := [1] } [True, (AV.p (.c (.v (.bool (!(inR (x0.2.2.getD i 0) 0 7))))) = AV.p (.c (.v (.bool false)))), (AV.p (.c (.v (.bool (decide (((i : Nat) : Int) > 0))))) = AV.p (.c (.v (.bool false))))] gamOK hT h (by kernel_rfl) ⟨trivial, hint_bool (h2), hint_bool (decide_eq_false h4), trivial⟩ ?_
        intro a w h
        refine then_normal ?_
        refine at_test false h (by kernel_rfl) (fun hh => nomatch hh) (fun hh => ?_)
        refine wp_skip ?_
        refine in_normal ?_
        refine then_normal ?_
        refine at_regq (T := S_impl_IsValidGroup_tab) [{ nw := true }] { ts := [1, 2, 6, 7, 8, 17, 18, 19, 20, 21, 22, 23, 24, 25, 26, 27, 28], os := [1] } [I64 (((i : Nat) : Int) + 1)] gamOK hT h (by kernel_rfl) ⟨⟨by first | omega | (simp only [List.length_append, List.length_cons, List.length_nil, List.length_set, List.length_take, List.length_drop, List.length_replicate, List.length_map, Nat.min_def]; omega) | (simp; done) | (simp; omega) | done, by first | omega | (simp only [List.length_append, List.length_cons, List.length_nil, List.length_set, List.length_take, List.length_drop, List.length_replicate, List.length_map, Nat.min_def]; omega) | (simp; done) | (simp; omega) | done⟩, trivial⟩ ?_
        intro a w h
        replace h := at_out (σ' := ⟨[(1, aP 1 0), (2, aB false), (6, aF (.int 3) x0.2.2), (7, aI ((List.length x0.2.2 : Nat) : Int)), (8, aI (((i : Nat) : Int) + 1))], [(1, oX 72 [cI x0.1, cI x0.2.1, .ro (.int 3) x0.2.2])]⟩) { ts := [1, 2, 6, 7, 8], os := [1] } h (by kernel_rfl)
        exact ⟨i + 1, at_eq h (st_congr1 (fun (d0 : Int) => (⟨[(1, aP 1 0), (2, aB false), (6, aF (.int 3) x0.2.2), (7, aI ((List.length x0.2.2 : Nat) : Int)), (8, aI d0)], [(1, oX 72 [cI x0.1, cI x0.2.1, .ro (.int 3) x0.2.2])]⟩ : St)) (show (((i : Nat) : Int) + 1 : Int) = (((i + 1) : Nat) : Int) from by first | with_reducible rfl | (omega) | rfl)), (by exact ⟨by omega, allN_succ hok0.2 (by exact grp_t (by omega) (by omega))⟩), (by omega)⟩
  · replace h1 : ¬ (((i : Nat) : Int) < ((List.length x0.2.2 : Nat) : Int)) := of_decide_eq_false h1
    refine wp_exit ?_
    refine then_exit ?_
    have hs7 : (allN (grpP x0.2.2) (List.length x0.2.2)) = true := by exact allN_eq (by omega) hok0.1 hok0.2
    refine then_exit ?_
    refine in_hit ?_
    refine then_normal ?_
    refine wp_seq ?_
    rcases Bool.eq_false_or_eq_true ((isKey x0.1)) with h8 | h8
    · skip
      have hvh8 := isKey_t h8
      refine at_reg (T := S_impl_IsValidGroup_tab) [{}, {}, { hint := some (aB true) }] { ts := [2], os := [] } ⟨[(2, aB (inR x0.2.1 0 100000))], []⟩ [True, (AV.p (.c (.v (.bool ((isKey x0.1))))) = AV.p (.c (.v (.bool true)))), True] gamOK hT h (by kernel_rfl) ⟨trivial, hint_bool (h8), trivial, trivial⟩ ?_
      intro a w h
      refine then_normal ?_
      refine wp_ret ?_
      exact at_return (S := S_impl_IsValidGroup) (x := (x0, ())) ((inR x0.2.1 0 100000), ()) [] h (by kernel_rfl) trivial (congrArg (fun z => (z, ())) (show ((inR x0.2.1 0 100000)) = validGroup x0 from by first | rfl | (unfold validGroup; rw [if_pos hs7, if_pos h8])))
    · skip
      refine at_reg (T := S_impl_IsValidGroup_tab) [{}, {}, { hint := some (aB false) }] { ts := [2], os := [] } ⟨[(2, aB false)], []⟩ [True, (AV.p (.c (.v (.bool ((isKey x0.1))))) = AV.p (.c (.v (.bool false))))] gamOK hT h (by kernel_rfl) ⟨trivial, hint_bool (h8), trivial⟩ ?_
      intro a w h
      refine then_normal ?_
      refine wp_ret ?_
      exact at_return (S := S_impl_IsValidGroup) (x := (x0, ())) (false, ()) [] h (by kernel_rfl) trivial (congrArg (fun z => (z, ())) (show (false) = validGroup x0 from by first | rfl | (unfold validGroup; rw [if_pos hs7, if_neg (neT h8)])))

theorem validGroup_t {g : T72} (h : validGroup g = true) : (1 ≤ g.1 ∧ g.1 ≤ 2147483646) ∧ (0 ≤ g.2.1 ∧ g.2.1 ≤ 100000) ∧ List.length g.2.2 ≤ 8 ∧ allN (grpP g.2.2) (List.length g.2.2) = true := by
  unfold validGroup at h
  split at h
  · rename_i ha
    split at h
    · rename_i hk
      exact ⟨isKey_t hk, inR_t h, grp_len ha, ha⟩
    · cases h
  · cases h

def S_spec_IsValidGroup : Sum := { fid := 114, dom := [s72], cod := [(.bool 4)], dp := true, fz := false, pre := fun x => (fun (x0 : T72) => Sh.fit s72 x0) x.1, g := fun x => ((validGroup x.1), ()) }
def S_spec_IsValidGroup_tab : List (Nat × Sum) := [(135, S_spec_l1In), (161, S_spec_IsValidKey)]
theorem S_spec_IsValidGroup_ok : FnOK Try.prog 114 S_spec_IsValidGroup := by
  refine at_enter 44 (fun x => ⟨[(0, aG [cI x.1.1, cI x.1.2.1, .ro (.int 3) x.1.2.2])], []⟩) Try.func114 rfl (by kernel_rfl) (fun x => rfl) ?_
  rintro w0 Z0 ⟨x0, u⟩ a w
  revert x0
  intro (x0 : T72) hpre hlens h
  replace h : At w0 Z0 [] 44 ⟨[(0, aG [cI x0.1, cI x0.2.1, .ro (.int 3) x0.2.2])], []⟩ a w := h
  replace hpre : (fun (x0 : T72) => Sh.fit s72 x0) x0 := hpre
  have hl1 : List.length x0.2.2 ≤ 9223372036854775807 := hlens.1.2.2.1
  have hT : TabOK Try.prog S_spec_IsValidGroup_tab := (.cons S_spec_l1In_ok (.cons S_spec_IsValidKey_ok .nil))
  have hf0 : Sh.fit s72 x0 := hpre
  have hn0_1 : List.length x0.2.2 ≤ 1073741824 := hf0.2.2.1
  refine wp_seq ?_
  refine at_regq (T := S_spec_IsValidGroup_tab) [{ ids := [1] }] { ts := [1, 2], os := [1] } [] gamOK hT h (by kernel_rfl) trivial ?_
  intro a w h
  refine then_normal ?_
  refine wp_seq ?_
  refine wp_seq ?_
  refine at_regq (T := S_spec_IsValidGroup_tab) [] { ts := [1, 2, 3], os := [1] } [] gamOK hT h (by kernel_rfl) trivial ?_
  intro a w h
  refine then_normal ?_
  refine wp_block ?_
  replace h := at_out (σ' := ⟨[(1, aP 1 0), (2, aB false), (3, aI 0)], [(1, oX 72 [cI x0.1, cI x0.2.1, .ro (.int 3) x0.2.2])]⟩) { ts := [1, 2, 3], os := [1] } h (by kernel_rfl)
  refine at_loop (fun i : Nat => (⟨[(1, aP 1 0), (2, aB false), (3, aI ((i : Nat) : Int))], [(1, oX 72 [cI x0.1, cI x0.2.1, .ro (.int 3) x0.2.2])]⟩ : St)) (fun i => (i ≤ (List.length x0.2.2) ∧ allN (grpP x0.2.2) i = true)) (fun i => (List.length x0.2.2) - i) (0) h (st_congr1 (fun (d0 : Int) => (⟨[(1, aP 1 0), (2, aB false), (3, aI d0)], [(1, oX 72 [cI x0.1, cI x0.2.1, .ro (.int 3) x0.2.2])]⟩ : St)) (show (0 : Int) = (((0) : Nat) : Int) from by first | with_reducible rfl | (rfl) | rfl)) (by exact ⟨Nat.zero_le _, rfl⟩) ?_
  intro i a w hok0 h
  refine wp_seq ?_
  refine wp_seq ?_
  refine at_regq (T := S_spec_IsValidGroup_tab) [] { ts := [1, 2, 3, 8], os := [1] } [] gamOK hT h (by kernel_rfl) trivial ?_
  intro a w h
  refine then_normal ?_
  refine at_test (decide (((i : Nat) : Int) < ((List.length x0.2.2 : Nat) : Int))) h (by kernel_rfl) (fun h1 => ?_) (fun h1 => ?_)
  · replace h1 : ((i : Nat) : Int) < ((List.length x0.2.2 : Nat) : Int) := of_decide_eq_true h1
    refine wp_skip ?_
    refine then_normal ?_
    refine wp_seq ?_
    refine wp_block ?_
    refine wp_seq ?_
    rcases Bool.eq_false_or_eq_true (!(inR (x0.2.2.getD i 0) 0 7)) with h2 | h2
    · skip
      have hvh2 := inR_f (notT h2)
      refine at_any (T := S_spec_IsValidGroup_tab) [{}, {}, {}, {}, {}, {}, { hint := some (aB true) }, {}, {}, {}, {}, {}, {}, {}, {}, {}, {}, {}, {}, {}, {}, {}, {}, {}, {}] { ts := [1, 2, 3, 19, 20, 21, 22, 23, 24, 25, 26, 27, 28, 29, 30, 31, 32, 33, 34, 35], os := [1] } ⟨[(1, aP 1 0), (2, aB false), (3, aI ((i : Nat) : Int)), (19, .p (.c (.v undef))), (20, .p (.c (.v undef))), (21, .p (.c (.v undef))), (22, .p (.c (.v undef))), (23, .p (.c (.v undef))), (24, .p (.c (.v undef))), (25, .p (.c (.v undef))), (26, .p (.c (.v undef))), (27, .p (.c (.v undef))), (28, .p (.c (.v undef))), (29, .p (.c (.v undef))), (30, .p (.c (.v undef))), (31, .p (.c (.v undef))), (32, .p (.c (.v undef))), (33, .p (.c (.v undef))), (34, .p (.c (.v undef))), (35, aB true)], [(1, oX 72 [cI x0.1, cI x0.2.1, .ro (.int 3) x0.2.2])]⟩ [(0 : Int) ≤ ((i : Nat) : Int) ∧ ((i : Nat) : Int) < ((List.length x0.2.2 : Nat) : Int), True, (AV.p (.c (.v (.bool (!(inR (x0.2.2.getD i 0) 0 7))))) = AV.p (.c (.v (.bool true))))] gamOK hT mixed h (by kernel_rfl) ⟨(by refine ⟨?_, ?_⟩ <;> (first | omega | (simp only [List.length_append, List.length_cons, List.length_nil, List.length_set, List.length_take, List.length_drop, List.length_replicate, List.length_map, Nat.min_def]; omega) | (simp; done) | (simp; omega) | done)), trivial, hint_bool (h2), trivial⟩ ?_
      intro a w h
      refine then_normal ?_
      refine at_test true h (by kernel_rfl) (fun hh => ?_) (fun hh => nomatch hh)
      refine wp_seq ?_
      refine at_regq (T := S_spec_IsValidGroup_tab) [] { ts := [1, 2, 3, 19, 20, 21, 22, 23, 24, 25, 26, 27, 28, 29, 30, 31, 32, 33, 34], os := [1] } [] gamOK hT h (by kernel_rfl) trivial ?_
      intro a w h
      refine then_normal ?_
      refine wp_ret ?_
      refine in_ret ?_
      refine then_ret ?_
      have hs3 : (allN (grpP x0.2.2) (List.length x0.2.2)) = false := by exact allN_at (i := i) (by omega) (by exact grp_f (by omega))
      refine then_ret ?_
      refine in_ret ?_
      refine then_ret ?_
      exact at_return (S := S_spec_IsValidGroup) (x := (x0, ())) (false, ()) [] h (by kernel_rfl) trivial (congrArg (fun z => (z, ())) (show (false) = validGroup x0 from by first | rfl | (unfold validGroup; rw [if_neg (neT hs3)]; done) | (unfold validGroup; simp_all)))
    · skip
      have hvh2 := inR_t (notF h2)
      by_cases h4 : ((i : Nat) : Int) > 0
      · skip
        refine at_any (T := S_spec_IsValidGroup_tab) [{}, {}, {}, {}, {}, {}, { hint := some (aB false) }, {}, {}, { hint := some (aB true) }, {}, {}, {}, {}, { nw := true }, {}, {}, {}, {}, {}, {}, {}, {}, {}, {}] { ts := [1, 2, 3, 19, 20, 21, 22, 23, 24, 25, 26, 27, 28, 29, 30, 31, 32, 33, 34, 35], os := [1] } ⟨[(1, aP 1 0), (2, aB false), (3, aI ((i : Nat) : Int)), (19, aI ((i : Nat) : Int)), (20, aB true), (21, aB true), (22, aP 1 2), (23, aF (.int 3) x0.2.2), (24, aI ((i : Nat) : Int)), (25, aI (((i : Nat) : Int) - 1)), (26, aR (.int 3) (x0.2.2.getD ((((i : Nat) : Int) - 1).toNat) 0) 0), (27, aI (x0.2.2.getD ((((i : Nat) : Int) - 1).toNat) 0)), (28, aP 1 2), (29, aF (.int 3) x0.2.2), (30, aI ((i : Nat) : Int)), (31, aR (.int 3) (x0.2.2.getD i 0) 0), (32, aI (x0.2.2.getD i 0)), (33, aB (decide ((x0.2.2.getD ((((i : Nat) : Int) - 1).toNat) 0) ≥ (x0.2.2.getD i 0)))), (34, aB (decide ((x0.2.2.getD ((((i : Nat) : Int) - 1).toNat) 0) ≥ (x0.2.2.getD i 0)))), (35, aB (decide ((x0.2.2.getD ((((i : Nat) : Int) - 1).toNat) 0) ≥ (x0.2.2.getD i 0))))], [(1, oX 72 [cI x0.1, cI x0.2.1, .ro (.int 3) x0.2.2])]⟩ [(0 : Int) ≤ ((i : Nat) : Int) ∧ ((i : Nat) : Int) < ((List.length x0.2.2 : Nat) : Int), True, (AV.p (.c (.v (.bool (!(inR (x0.2.2.getD i 0) 0 7))))) = AV.p (.c (.v (.bool false)))), (AV.p (.c (.v (.bool (decide (((i : Nat) : Int) > 0))))) = AV.p (.c (.v (.bool true)))), I64 (((i : Nat) : Int) - 1), (0 : Int) ≤ ((i : Nat) : Int) - 1 ∧ ((i : Nat) : Int) - 1 < ((List.length x0.2.2 : Nat) : Int), (0 : Int) ≤ ((i : Nat) : Int) ∧ ((i : Nat) : Int) < ((List.length x0.2.2 : Nat) : Int)] gamOK hT mixed h (by kernel_rfl) ⟨(by refine ⟨?_, ?_⟩ <;> (first | omega | (simp only [List.length_append, List.length_cons, List.length_nil, List.length_set, List.length_take, List.length_drop, List.length_replicate, List.length_map, Nat.min_def]; omega) | (simp; done) | (simp; omega) | done)), trivial, hint_bool (h2), hint_bool (decide_eq_true h4), ⟨by first | omega | (simp only [List.length_append, List.length_cons, List.length_nil, List.length_set, List.length_take, List.length_drop, List.length_replicate, List.length_map, Nat.min_def]; omega) | (simp; done) | (simp; omega) | done, by first | omega | (simp only [List.length_append, List.length_cons, List.length_nil, List.length_set, List.length_take, List.length_drop, List.length_replicate, List.length_map, Nat.min_def]; omega) | (simp; done) | (simp; omega) | done⟩, (by refine ⟨?_, ?_⟩ <;> (first | omega | (simp only [List.length_append, List.length_cons, List.length_nil, List.length_set, List.length_take, List.length_drop, List.length_replicate, List.length_map, Nat.min_def]; omega) | (simp; done) | (simp; omega) | done)), (by refine ⟨?_, ?_⟩ <;> (first | omega | (simp only [List.length_append, List.length_cons, List.length_nil, List.length_set, List.length_take, List.length_drop, List.length_replicate, List.length_map, Nat.min_def]; omega) | (simp; done) | (simp; omega) | done)), trivial⟩ ?_
        intro a w h
        refine then_normal ?_
        refine at_test (decide ((x0.2.2.getD ((((i : Nat) : Int) - 1).toNat) 0) ≥ (x0.2.2.getD i 0))) h (by kernel_rfl) (fun h5 => ?_) (fun h5 => ?_)
        · replace h5 : (x0.2.2.getD ((((i : Nat) : Int) - 1).toNat) 0) ≥ (x0.2.2.getD i 0) := of_decide_eq_true h5
          refine wp_seq ?_
          refine at_regq (T := S_spec_IsValidGroup_tab) [] { ts := [1, 2, 3, 19, 20, 21, 22, 23, 24, 25, 26, 27, 28, 29, 30, 31, 32, 33, 34], os := [1] } [] gamOK hT h (by kernel_rfl) trivial ?_
          intro a w h
          refine then_normal ?_
          refine wp_ret ?_
          refine in_ret ?_
          refine then_ret ?_
          have hs6 : (allN (grpP x0.2.2) (List.length x0.2.2)) = false := by exact allN_at (i := i) (by omega) (by exact grp_f (by omega))
          refine then_ret ?_
          refine in_ret ?_
          refine then_ret ?_
          exact at_return (S := S_spec_IsValidGroup) (x := (x0, ())) (false, ()) [] h (by kernel_rfl) trivial (congrArg (fun z => (z, ())) (show (false) = validGroup x0 from by first | rfl | (unfold validGroup; rw [if_neg (neT hs6)]; done) | (unfold validGroup; simp_all)))
        · replace h5 : ¬ ((x0.2.2.getD ((((i : Nat) : Int) - 1).toNat) 0) ≥ (x0.2.2.getD i 0)) := of_decide_eq_false h5
          refine wp_skip ?_
          refine in_normal ?_
          refine then_normal ?_
          refine at_regq (T := S_spec_IsValidGroup_tab) [{}, { nw := true }] { ts := [1, 2, 3, 19, 20, 21, 22, 23, 24, 25, 26, 27, 28, 29, 30, 31, 32, 33, 34], os := [1] } [I64 (((i : Nat) : Int) + 1)] gamOK hT h (by kernel_rfl) ⟨⟨by first | omega | (simp only [List.length_append, List.length_cons, List.length_nil, List.length_set, List.length_take, List.length_drop, List.length_replicate, List.length_map, Nat.min_def]; omega) | (simp; done) | (simp; omega) | done, by first | omega | (simp only [List.length_append, List.length_cons, List.length_nil, List.length_set, List.length_take, List.length_drop, List.length_replicate, List.length_map, Nat.min_def]; omega) | (simp; done) | (simp; omega) | done⟩, trivial⟩ ?_
          intro a w h
          replace h := at_out (σ' := ⟨[(1, aP 1 0), (2, aB false), (3, aI (((i : Nat) : Int) + 1))], [(1, oX 72 [cI x0.1, cI x0.2.1, .ro (.int 3) x0.2.2])]⟩) { ts := [1, 2, 3], os := [1] } h (by kernel_rfl)
          exact ⟨i + 1, at_eq h (st_congr1 (fun (d0 : Int) => (⟨[(1, aP 1 0), (2, aB false), (3, aI d0)], [(1, oX 72 [cI x0.1, cI x0.2.1, .ro (.int 3) x0.2.2])]⟩ : St)) (show (((i : Nat) : Int) + 1 : Int) = (((i + 1) : Nat) : Int) from by first | with_reducible rfl | (omega) | rfl)), (by exact ⟨by omega, allN_succ hok0.2 (by exact grp_t (by omega) (by omega))⟩), (by omega)⟩
      · skip
        refine at_any (T := S_spec_IsValidGroup_tab) [{}, {}, {}, {}, {}, {}, { hint := some (aB false) }, {}, {}, { hint := some (aB false) }, {}, {}, {}, {}, {}, {}, {}, {}, {}, {}, {}, {}, {}, {}, {}] { ts := [1, 2, 3, 19, 20, 21, 22, 23, 24, 25, 26, 27, 28, 29, 30, 31, 32, 33, 34, 35], os := [1] } ⟨[(1, aP 1 0), (2, aB false), (3, aI ((i : Nat) : Int)), (19, aI ((i : Nat) : Int)), (20, aB false), (21, aB false), (22, .p (.c (.v undef))), (23, .p (.c (.v undef))), (24, .p (.c (.v undef))), (25, .p (.c (.v undef))), (26, .p (.c (.v undef))), (27, .p (.c (.v undef))), (28, .p (.c (.v undef))), (29, .p (.c (.v undef))), (30, .p (.c (.v undef))), (31, .p (.c (.v undef))), (32, .p (.c (.v undef))), (33, .p (.c (.v undef))), (34, aB false), (35, aB false)], [(1, oX 72 [cI x0.1, cI x0.2.1, .ro (.int 3) x0.2.2])]⟩ [(0 : Int) ≤ ((i : Nat) : Int) ∧ ((i : Nat) : Int) < ((List.length x0.2.2 : Nat) : Int), True, (AV.p (.c (.v (.bool (!(inR (x0.2.2.getD i 0) 0 7))))) = AV.p (.c (.v (.bool false)))), (AV.p (.c (.v (.bool (decide (((i : Nat) : Int) > 0))))) = AV.p (.c (.v (.bool false))))] gamOK hT mixed h (by kernel_rfl) ⟨(by refine ⟨?_, ?_⟩ <;> (first | omega | (simp only [List.length_append, List.length_cons, List.length_nil, List.length_set, List.length_take, List.length_drop, List.length_replicate, List.length_map, Nat.min_def]; omega) | (simp; done) | (simp; omega) | done)), trivial, hint_bool (h2), hint_bool (decide_eq_false h4), trivial⟩ ?_
        intro a w h
        refine then_normal ?_
        refine at_test false h (by kernel_rfl) (fun hh => nomatch hh) (fun hh => ?_)
        refine wp_skip ?_
        refine in_normal ?_
        refine then_normal ?_
        refine at_regq (T := S_spec_IsValidGroup_tab) [{}, { nw := true }] { ts := [1, 2, 3, 19, 20, 21, 22, 23, 24, 25, 26, 27, 28, 29, 30, 31, 32, 33, 34], os := [1] } [I64 (((i : Nat) : Int) + 1)] gamOK hT h (by kernel_rfl) ⟨⟨by first | omega | (simp only [List.length_append, List.length_cons, List.length_nil, List.length_set, List.length_take, List.length_drop, List.length_replicate, List.length_map, Nat.min_def]; omega) | (simp; done) | (simp; omega) | done, by first | omega | (simp only [List.length_append, List.length_cons, List.length_nil, List.length_set, List.length_take, List.length_drop, List.length_replicate, List.length_map, Nat.min_def]; omega) | (simp; done) | (simp; omega) | done⟩, trivial⟩ ?_
        intro a w h
        replace h := at_out (σ' := ⟨[(1, aP 1 0), (2, aB false), (3, aI (((i : Nat) : Int) + 1))], [(1, oX 72 [cI x0.1, cI x0.2.1, .ro (.int 3) x0.2.2])]⟩) { ts := [1, 2, 3], os := [1] } h (by kernel_rfl)
        exact ⟨i + 1, at_eq h (st_congr1 (fun (d0 : Int) => (⟨[(1, aP 1 0), (2, aB false), (3, aI d0)], [(1, oX 72 [cI x0.1, cI x0.2.1, .ro (.int 3) x0.2.2])]⟩ : St)) (show (((i : Nat) : Int) + 1 : Int) = (((i + 1) : Nat) : Int) from by first | with_reducible rfl | (omega) | rfl)), (by exact ⟨by omega, allN_succ hok0.2 (by exact grp_t (by omega) (by omega))⟩), (by omega)⟩
  · replace h1 : ¬ (((i : Nat) : Int) < ((List.length x0.2.2 : Nat) : Int)) := of_decide_eq_false h1
    refine wp_exit ?_
    refine then_exit ?_
    have hs7 : (allN (grpP x0.2.2) (List.length x0.2.2)) = true := by exact allN_eq (by omega) hok0.1 hok0.2
    refine then_exit ?_
    refine in_hit ?_
    refine then_normal ?_
    refine wp_seq ?_
    rcases Bool.eq_false_or_eq_true ((isKey x0.1)) with h8 | h8
    · skip
      have hvh8 := isKey_t h8
      refine at_reg (T := S_spec_IsValidGroup_tab) [{}, {}, { hint := some (aB true) }] { ts := [2], os := [] } ⟨[(2, aB (inR x0.2.1 0 100000))], []⟩ [True, (AV.p (.c (.v (.bool ((isKey x0.1))))) = AV.p (.c (.v (.bool true)))), True] gamOK hT h (by kernel_rfl) ⟨trivial, hint_bool (h8), trivial, trivial⟩ ?_
      intro a w h
      refine then_normal ?_
      refine wp_ret ?_
      exact at_return (S := S_spec_IsValidGroup) (x := (x0, ())) ((inR x0.2.1 0 100000), ()) [] h (by kernel_rfl) trivial (congrArg (fun z => (z, ())) (show ((inR x0.2.1 0 100000)) = validGroup x0 from by first | rfl | (unfold validGroup; rw [if_pos hs7, if_pos h8]; done) | (unfold validGroup; simp_all)))
    · skip
      refine at_reg (T := S_spec_IsValidGroup_tab) [{}, {}, { hint := some (aB false) }] { ts := [2], os := [] } ⟨[(2, aB false)], []⟩ [True, (AV.p (.c (.v (.bool ((isKey x0.1))))) = AV.p (.c (.v (.bool false))))] gamOK hT h (by kernel_rfl) ⟨trivial, hint_bool (h8), trivial⟩ ?_
      intro a w h
      refine then_normal ?_
      refine wp_ret ?_
      exact at_return (S := S_spec_IsValidGroup) (x := (x0, ())) (false, ()) [] h (by kernel_rfl) trivial (congrArg (fun z => (z, ())) (show (false) = validGroup x0 from by first | rfl | (unfold validGroup; rw [if_pos hs7, if_neg (neT h8)]; done) | (unfold validGroup; simp_all)))

def S__impl_Group_clone : Sum := { fid := 116, dom := [s72], cod := [s72], dp := true, fz := false, pre := fun x => (fun (x0 : T72) => Sh.fit s72 x0) x.1, g := fun x => (((idD s72) x.1), ()) }
def S__impl_Group_clone_tab : List (Nat × Sum) := [(138, S_slices_Clone_S_int_int_)]
theorem S__impl_Group_clone_ok : FnOK Try.prog 116 S__impl_Group_clone := by
  refine at_enter 8 (fun x => ⟨[(0, aG [cI x.1.1, cI x.1.2.1, .ro (.int 3) x.1.2.2])], []⟩) Try.func116 rfl (by kernel_rfl) (fun x => rfl) ?_
  rintro w0 Z0 ⟨x0, u⟩ a w
  revert x0
  intro (x0 : T72) hpre hlens h
  replace h : At w0 Z0 [] 8 ⟨[(0, aG [cI x0.1, cI x0.2.1, .ro (.int 3) x0.2.2])], []⟩ a w := h
  replace hpre : (fun (x0 : T72) => Sh.fit s72 x0) x0 := hpre
  have hl1 : List.length x0.2.2 ≤ 9223372036854775807 := hlens.1.2.2.1
  have hT : TabOK Try.prog S__impl_Group_clone_tab := (.cons S_slices_Clone_S_int_int__ok .nil)
  have hf0 : Sh.fit s72 x0 := hpre
  have hn0_1 : List.length x0.2.2 ≤ 1073741824 := hf0.2.2.1
  refine wp_seq ?_
  refine at_regq (T := S__impl_Group_clone_tab) [{ ids := [1] }, { ids := [2] }] { ts := [1, 2], os := [1, 2] } [] gamOK hT h (by kernel_rfl) trivial ?_
  intro a w h
  refine then_normal ?_
  refine wp_seq ?_
  refine at_regq (T := S__impl_Group_clone_tab) [{}, {}, { ids := [3] }] { ts := [1, 2], os := [1, 2, 3] } [(lenOK (α := Int)) x0.2.2] gamOK hT h (by kernel_rfl) ⟨(by first | assumption | trivial | (first | omega | (simp only [List.length_append, List.length_cons, List.length_nil, List.length_set, List.length_take, List.length_drop, List.length_replicate, List.length_map, Nat.min_def]; omega) | (simp; done) | (simp; omega) | done)), trivial⟩ ?_
  intro a w h
  refine then_normal ?_
  refine wp_seq ?_
  refine at_regq (T := S__impl_Group_clone_tab) [] { ts := [2], os := [2, 3] } [] gamOK hT h (by kernel_rfl) trivial ?_
  intro a w h
  refine then_normal ?_
  refine wp_ret ?_
  exact at_return (S := S__impl_Group_clone) (x := (x0, ())) (x0, ()) [] h (by kernel_rfl) trivial (congrArg (fun z => (z, ())) (show (x0) = (idD s72) x0 from by rfl))

def S_spec_l27Copy : Sum := { fid := 115, dom := [s72], cod := [s72], dp := true, fz := false, pre := fun x => (fun (x0 : T72) => Sh.fit s72 x0) x.1, g := fun x => (((idD s72) x.1), ()) }
def S_spec_l27Copy_tab : List (Nat × Sum) := []
theorem S_spec_l27Copy_ok : FnOK Try.prog 115 S_spec_l27Copy := by
  refine at_enter 11 (fun x => ⟨[(0, aG [cI x.1.1, cI x.1.2.1, .ro (.int 3) x.1.2.2])], []⟩) Try.func115 rfl (by kernel_rfl) (fun x => rfl) ?_
  rintro w0 Z0 ⟨x0, u⟩ a w
  revert x0
  intro (x0 : T72) hpre hlens h
  replace h : At w0 Z0 [] 11 ⟨[(0, aG [cI x0.1, cI x0.2.1, .ro (.int 3) x0.2.2])], []⟩ a w := h
  replace hpre : (fun (x0 : T72) => Sh.fit s72 x0) x0 := hpre
  have hl1 : List.length x0.2.2 ≤ 9223372036854775807 := hlens.1.2.2.1
  have hT : TabOK Try.prog S_spec_l27Copy_tab := .nil
  have hf0 : Sh.fit s72 x0 := hpre
  have hn0_1 : List.length x0.2.2 ≤ 1073741824 := hf0.2.2.1
  refine wp_seq ?_
  refine at_regq (T := S_spec_l27Copy_tab) [{ ids := [1] }, { ids := [2] }] { ts := [1, 2], os := [1, 2] } [] gamOK hT h (by kernel_rfl) trivial ?_
  intro a w h
  refine then_normal ?_
  refine wp_seq ?_
  refine at_regq (T := S_spec_l27Copy_tab) [{}, { ids := [3] }] { ts := [1, 2, 3], os := [1, 2, 3] } [] gamOK hT h (by kernel_rfl) trivial ?_
  intro a w h
  refine then_normal ?_
  refine wp_seq ?_
  refine at_regq (T := S_spec_l27Copy_tab) [{ ids := [4] }, {}, {}, { ids := [5] }] { ts := [2, 3], os := [2, 3, 5] } [(List.length ([] : List Int) + List.length x0.2.2) * 8 ≤ 140737488355328] gamOK hT h (by kernel_rfl) ⟨(by first | omega | (simp only [List.length_append, List.length_cons, List.length_nil, List.length_set, List.length_take, List.length_drop, List.length_replicate, List.length_map, Nat.min_def]; omega) | (simp; done) | (simp; omega) | done), trivial⟩ ?_
  intro a w h
  refine then_normal ?_
  refine wp_seq ?_
  refine at_reg (T := S_spec_l27Copy_tab) [] { ts := [2], os := [2, 5] } ⟨[(2, aP 2 0)], [(2, oX 72 [cI x0.1, cI x0.2.1, .sl 5]), (5, oR (.int 3) (([] : List Int) ++ x0.2.2))]⟩ [] gamOK hT h (by kernel_rfl) trivial ?_
  intro a w h
  refine then_normal ?_
  refine wp_ret ?_
  exact at_return (S := S_spec_l27Copy) (x := (x0, ())) ((x0.1, (x0.2.1, (([] : List Int) ++ x0.2.2))), ()) [] h (by kernel_rfl) trivial (congrArg (fun z => (z, ())) (show ((x0.1, (x0.2.1, (([] : List Int) ++ x0.2.2)))) = (idD s72) x0 from by rfl))

def grpChanged (x0 : T72) (x1 : (List Int)) : T72 × Bool := (if (validGroup (x0.1, (x0.2.1 + 1, x1))) = true then ((x0.1, (x0.2.1 + 1, x1)), true) else (x0, false))
def S__impl_Group_changed : Sum := { fid := 119, dom := [s72, s34], cod := [s72, (.bool 4)], dp := true, fz := false, pre := fun x => (fun (x0 : T72) (x1 : (List Int)) => Sh.fit s72 x0 ∧ Sh.fit s34 x1 ∧ (0 ≤ x0.2.1 ∧ x0.2.1 ≤ 100000)) x.1 x.2.1, g := fun x => ((grpChanged x.1 x.2.1).1, ((grpChanged x.1 x.2.1).2, ())), kinds := [.rd, .tk], upd := fun x => (x.1, (x.2.1, ())) }
def S__impl_Group_changed_tab : List (Nat × Sum) := [(118, S_impl_IsValidGroup), (116, S__impl_Group_clone)]
theorem S__impl_Group_changed_ok : FnOK Try.prog 119 S__impl_Group_changed := by
  refine at_enterI 20 [1] [] (fun us x => ⟨[(0, aG [cI x.1.1, cI x.1.2.1, .ro (.int 3) x.1.2.2]), (1, aS 1)], [(1, oR (.int 3) x.2.1)]⟩) Try.func119 rfl (by kernel_rfl) (fun us x => rfl) ?_
  rintro w0 Z0 us ⟨x0, x1, u⟩ L a w
  revert x0 x1
  intro (x0 : T72) (x1 : (List Int)) hio hpre hlens h
  replace h : At w0 Z0 L 20 ⟨[(0, aG [cI x0.1, cI x0.2.1, .ro (.int 3) x0.2.2]), (1, aS 1)], [(1, oR (.int 3) x1)]⟩ a w := h
  replace hpre : (fun (x0 : T72) (x1 : (List Int)) => Sh.fit s72 x0 ∧ Sh.fit s34 x1 ∧ (0 ≤ x0.2.1 ∧ x0.2.1 ≤ 100000)) x0 x1 := hpre
  have hl1 : List.length x0.2.2 ≤ 9223372036854775807 := hlens.1.2.2.1
  have hl2 : List.length x1 ≤ 9223372036854775807 := hlens.2.1.1
  have hT : TabOK Try.prog S__impl_Group_changed_tab := (.cons S_impl_IsValidGroup_ok (.cons S__impl_Group_clone_ok .nil))
  obtain ⟨hf0, hf1, hpx⟩ := hpre
  have hn0_1 : List.length x0.2.2 ≤ 1073741824 := hf0.2.2.1
  have hn1_2 : List.length x1 ≤ 1073741824 := hf1.1
  refine wp_seq ?_
  refine at_regq (T := S__impl_Group_changed_tab) [{ ids := [2] }, { ids := [3] }] { ts := [1, 2, 4, 5], os := [1, 2, 3] } [] gamOK hT h (by kernel_rfl) trivial ?_
  intro a w h
  refine then_normal ?_
  refine wp_seq ?_
  refine at_regq (T := S__impl_Group_changed_tab) [{}, {}, {}, {}, { nw := true }, {}, {}, { ids := [4] }] { ts := [2, 4, 5, 6], os := [1, 2, 3, 4] } [I64 (x0.2.1 + 1)] gamOK hT h (by kernel_rfl) ⟨⟨by first | omega | (simp only [List.length_append, List.length_cons, List.length_nil, List.length_set, List.length_take, List.length_drop, List.length_replicate, List.length_map, Nat.min_def]; omega) | (simp; done) | (simp; omega) | done, by first | omega | (simp only [List.length_append, List.length_cons, List.length_nil, List.length_set, List.length_take, List.length_drop, List.length_replicate, List.length_map, Nat.min_def]; omega) | (simp; done) | (simp; omega) | done⟩, trivial⟩ ?_
  intro a w h
  refine then_normal ?_
  refine wp_seq ?_
  refine wp_seq ?_
  refine at_regq (T := S__impl_Group_changed_tab) [] { ts := [2, 4, 5, 6, 16], os := [1, 2, 3, 4] } [(fun (x0 : T72) => Sh.fit s72 x0) (x0.1, (x0.2.1 + 1, x1))] gamOK hT h (by kernel_rfl) ⟨(by first | assumption | trivial | (first | omega | (simp only [List.length_append, List.length_cons, List.length_nil, List.length_set, List.length_take, List.length_drop, List.length_replicate, List.length_map, Nat.min_def]; omega) | (simp; done) | (simp; omega) | done)), trivial⟩ ?_
  intro a w h
  refine then_normal ?_
  refine at_test (!(validGroup (x0.1, (x0.2.1 + 1, x1)))) h (by kernel_rfl) (fun h1 => ?_) (fun h1 => ?_)
  · replace h1 : (validGroup (x0.1, (x0.2.1 + 1, x1))) = false := notT h1
    refine wp_seq ?_
    refine at_reg (T := S__impl_Group_changed_tab) [{}, { ids := [5] }] { ts := [4, 5, 6], os := [1, 3, 4, 5] } ⟨[(4, aP 3 0), (5, aB false), (6, aP 4 0)], [(1, oR (.int 3) x1), (3, oX 72 [cI x0.1, cI x0.2.1, .sl 5]), (4, oX 72 [cI x0.1, cI (x0.2.1 + 1), .sl 1]), (5, oR (.int 3) x0.2.2)]⟩ [(fun (x0 : T72) => Sh.fit s72 x0) x0] gamOK hT h (by kernel_rfl) ⟨(by exact hf0), trivial⟩ ?_
    intro a w h
    refine then_normal ?_
    refine wp_ret ?_
    refine then_ret ?_
    exact at_returnI (S := S__impl_Group_changed) (x := (x0, x1, ())) [1] [] (x0, (x1, ())) (some (x0, (false, ()))) [] hio h (by kernel_rfl) trivial (by first | rfl | (show (x0, (x1, ())) = (x0, (x1, ())))) (fun z e => (Option.some.inj e) ▸ (congrArg (fun z => (z.1, z.2, ())) (show ((x0, false)) = grpChanged x0 x1 from by first | rfl | (unfold grpChanged; rw [if_neg (neT h1)]))))
  · replace h1 : (validGroup (x0.1, (x0.2.1 + 1, x1))) = true := notF h1
    have hvh1 := validGroup_t h1
    refine wp_skip ?_
    refine then_normal ?_
    refine wp_seq ?_
    refine at_reg (T := S__impl_Group_changed_tab) [] { ts := [4, 5], os := [1, 3] } ⟨[(4, aP 3 0), (5, aB true)], [(1, oR (.int 3) x1), (3, oX 72 [cI x0.1, cI (x0.2.1 + 1), .sl 1])]⟩ [] gamOK hT h (by kernel_rfl) trivial ?_
    intro a w h
    refine then_normal ?_
    refine wp_ret ?_
    exact at_returnI (S := S__impl_Group_changed) (x := (x0, x1, ())) [1] [] (x0, (x1, ())) (some ((x0.1, (x0.2.1 + 1, x1)), (true, ()))) [] hio h (by kernel_rfl) trivial (by first | rfl | (show (x0, (x1, ())) = (x0, (x1, ())))) (fun z e => (Option.some.inj e) ▸ (congrArg (fun z => (z.1, z.2, ())) (show (((x0.1, (x0.2.1 + 1, x1)), true)) = grpChanged x0 x1 from by first | rfl | (unfold grpChanged; rw [if_pos h1]))))

def D_impl_JoinGroup (x0 : T72) (x1 : Int) : T72 × Bool := (if (validGroup x0) = true then (if (D_slices_BinarySearch_S_int_int_ x0.2.2 x1).2 = true then (x0, false) else ((grpChanged x0 (D_slices_Insert_S_int_int_ x0.2.2 (D_slices_BinarySearch_S_int_int_ x0.2.2 x1).1 ([x1]))).1, (grpChanged x0 (D_slices_Insert_S_int_int_ x0.2.2 (D_slices_BinarySearch_S_int_int_ x0.2.2 x1).1 ([x1]))).2)) else (x0, false))
def S_impl_JoinGroup : Sum := { fid := 75, dom := [s72, (.int 3)], cod := [s72, (.bool 4)], dp := true, fz := false, pre := fun x => (fun (x0 : T72) (x1 : Int) => Sh.fit s72 x0) x.1 x.2.1, g := fun x => ((D_impl_JoinGroup x.1 x.2.1).1, ((D_impl_JoinGroup x.1 x.2.1).2, ())) }
def S_impl_JoinGroup_tab : List (Nat × Sum) := [(116, S__impl_Group_clone), (117, S_slices_BinarySearch_S_int_int_), (118, S_impl_IsValidGroup), (145, S_slices_Insert_S_int_int_), (119, S__impl_Group_changed)]
theorem S_impl_JoinGroup_ok : FnOK Try.prog 75 S_impl_JoinGroup := by
  refine at_enter 35 (fun x => ⟨[(0, aG [cI x.1.1, cI x.1.2.1, .ro (.int 3) x.1.2.2]), (1, aI x.2.1)], []⟩) Try.func75 rfl (by kernel_rfl) (fun x => rfl) ?_
  rintro w0 Z0 ⟨x0, x1, u⟩ a w
  revert x0 x1
  intro (x0 : T72) (x1 : Int) hpre hlens h
  replace h : At w0 Z0 [] 35 ⟨[(0, aG [cI x0.1, cI x0.2.1, .ro (.int 3) x0.2.2]), (1, aI x1)], []⟩ a w := h
  replace hpre : (fun (x0 : T72) (x1 : Int) => Sh.fit s72 x0) x0 x1 := hpre
  have hl1 : List.length x0.2.2 ≤ 9223372036854775807 := hlens.1.2.2.1
  have hT : TabOK Try.prog S_impl_JoinGroup_tab := (.cons S__impl_Group_clone_ok (.cons S_slices_BinarySearch_S_int_int__ok (.cons S_impl_IsValidGroup_ok (.cons S_slices_Insert_S_int_int__ok (.cons S__impl_Group_changed_ok .nil)))))
  have hf0 : Sh.fit s72 x0 := hpre
  have hn0_1 : List.length x0.2.2 ≤ 1073741824 := hf0.2.2.1
  refine wp_seq ?_
  refine at_regq (T := S_impl_JoinGroup_tab) [{ ids := [1] }, { ids := [2] }] { ts := [1, 2, 4, 5], os := [1, 2] } [] gamOK hT h (by kernel_rfl) trivial ?_
  intro a w h
  refine then_normal ?_
  refine wp_seq ?_
  refine at_regq (T := S_impl_JoinGroup_tab) [{}, { ids := [3] }, { ids := [4] }] { ts := [1, 2, 4, 5, 6], os := [1, 2, 3, 4] } [(fun (x0 : T72) => Sh.fit s72 x0) x0] gamOK hT h (by kernel_rfl) ⟨(by exact hf0), trivial⟩ ?_
  intro a w h
  refine then_normal ?_
  refine wp_seq ?_
  refine at_regq (T := S_impl_JoinGroup_tab) [] { ts := [1, 2, 4, 5, 6, 7, 8], os := [1, 2, 3, 4] } [(fun (x0 : (List Int)) (x1 : Int) => Sh.fit s34 x0) x0.2.2 x1] gamOK hT h (by kernel_rfl) ⟨(by exact hf0.2.2), trivial⟩ ?_
  intro a w h
  refine then_normal ?_
  refine wp_seq ?_
  refine wp_seq ?_
  rcases Bool.eq_false_or_eq_true (!(validGroup x0)) with h1 | h1
  · skip
    refine at_reg (T := S_impl_JoinGroup_tab) [{}, {}, { hint := some (aB true) }] { ts := [1, 2, 4, 5, 6, 7, 23], os := [1, 2, 3, 4] } ⟨[(1, aI x1), (2, aP 1 0), (4, aP 2 0), (5, aB false), (6, aP 4 0), (7, aI (D_slices_BinarySearch_S_int_int_ x0.2.2 x1).1), (23, aB true)], [(1, oX 72 [cI x0.1, cI x0.2.1, .ro (.int 3) x0.2.2]), (2, oX 72 [cI 0, cI 0, cN]), (3, oR (.int 3) x0.2.2), (4, oX 72 [cI x0.1, cI x0.2.1, .sl 3])]⟩ [(fun (x0 : T72) => Sh.fit s72 x0) x0, (AV.p (.c (.v (.bool (!(validGroup x0))))) = AV.p (.c (.v (.bool true))))] gamOK hT h (by kernel_rfl) ⟨(by exact hf0), hint_bool (h1), trivial⟩ ?_
    intro a w h
    refine then_normal ?_
    refine at_test true h (by kernel_rfl) (fun hh => ?_) (fun hh => nomatch hh)
    refine wp_seq ?_
    refine at_regq (T := S_impl_JoinGroup_tab) [] { ts := [1, 2, 4, 5, 6, 7], os := [1, 2, 3, 4] } [] gamOK hT h (by kernel_rfl) trivial ?_
    intro a w h
    refine then_normal ?_
    refine wp_ret ?_
    refine then_ret ?_
    exact at_return (S := S_impl_JoinGroup) (x := (x0, x1, ())) (x0, (false, ())) [] h (by kernel_rfl) trivial (congrArg (fun z => (z.1, z.2, ())) (show ((x0, false)) = D_impl_JoinGroup x0 x1 from by first | rfl | (unfold D_impl_JoinGroup; rw [if_neg (neT (notT h1))])))
  · skip
    have hvh1 := validGroup_t (notF h1)
    refine at_reg (T := S_impl_JoinGroup_tab) [{}, {}, { hint := some (aB false) }] { ts := [1, 2, 4, 5, 6, 7, 23], os := [1, 2, 3, 4] } ⟨[(1, aI x1), (2, aP 1 0), (4, aP 2 0), (5, aB false), (6, aP 4 0), (7, aI (D_slices_BinarySearch_S_int_int_ x0.2.2 x1).1), (23, aB (D_slices_BinarySearch_S_int_int_ x0.2.2 x1).2)], [(1, oX 72 [cI x0.1, cI x0.2.1, .ro (.int 3) x0.2.2]), (2, oX 72 [cI 0, cI 0, cN]), (3, oR (.int 3) x0.2.2), (4, oX 72 [cI x0.1, cI x0.2.1, .sl 3])]⟩ [(fun (x0 : T72) => Sh.fit s72 x0) x0, (AV.p (.c (.v (.bool (!(validGroup x0))))) = AV.p (.c (.v (.bool false))))] gamOK hT h (by kernel_rfl) ⟨(by exact hf0), hint_bool (h1), trivial⟩ ?_
    intro a w h
    refine then_normal ?_
    refine at_test ((D_slices_BinarySearch_S_int_int_ x0.2.2 x1).2) h (by kernel_rfl) (fun h2 => ?_) (fun h2 => ?_)
    · have hbs := bs_fact x0.2.2 x1
      have hbt := bs_true (xs := x0.2.2) (v := x1) (by simpa using h2)
      refine wp_seq ?_
      refine at_regq (T := S_impl_JoinGroup_tab) [] { ts := [1, 2, 4, 5, 6, 7], os := [1, 2, 3, 4] } [] gamOK hT h (by kernel_rfl) trivial ?_
      intro a w h
      refine then_normal ?_
      refine wp_ret ?_
      refine then_ret ?_
      exact at_return (S := S_impl_JoinGroup) (x := (x0, x1, ())) (x0, (false, ())) [] h (by kernel_rfl) trivial (congrArg (fun z => (z.1, z.2, ())) (show ((x0, false)) = D_impl_JoinGroup x0 x1 from by first | rfl | (unfold D_impl_JoinGroup; rw [if_pos (notF h1), if_pos h2])))
    · have hbs := bs_fact x0.2.2 x1
      refine wp_skip ?_
      refine then_normal ?_
      refine wp_seq ?_
      refine at_anyq (T := S_impl_JoinGroup_tab) [{}, {}, {}, {}, {}, { ids := [5] }, { ids := [6] }, { ids := [7] }, {}, {}, {}, {}] { ts := [4, 5], os := [2, 7] } [(fun (x0 : List Int) (x1 : Int) (x2 : List Int) => (0 ≤ x1 ∧ x1 ≤ ((List.length x0 : Nat) : Int)) ∧ 0 < List.length x2 ∧ (List.length x0 + List.length x2) * 8 ≤ 140737488355328) x0.2.2 (D_slices_BinarySearch_S_int_int_ x0.2.2 x1).1 ([x1]), (fun (x0 : T72) (x1 : (List Int)) => Sh.fit s72 x0 ∧ Sh.fit s34 x1 ∧ (0 ≤ x0.2.1 ∧ x0.2.1 ≤ 100000)) x0 (D_slices_Insert_S_int_int_ x0.2.2 (D_slices_BinarySearch_S_int_int_ x0.2.2 x1).1 ([x1]))] gamOK hT mixed h (by kernel_rfl) ⟨(by exact ⟨⟨by omega, by omega⟩, by simp, by simp; omega⟩), (by exact ⟨hf0, Sh.fit_len rfl (by unfold D_slices_Insert_S_int_int_ insAt; simp; omega), by omega⟩), trivial⟩ ?_
      intro a w h
      refine then_normal ?_
      refine wp_ret ?_
      exact at_return (S := S_impl_JoinGroup) (x := (x0, x1, ())) ((grpChanged x0 (D_slices_Insert_S_int_int_ x0.2.2 (D_slices_BinarySearch_S_int_int_ x0.2.2 x1).1 ([x1]))).1, ((grpChanged x0 (D_slices_Insert_S_int_int_ x0.2.2 (D_slices_BinarySearch_S_int_int_ x0.2.2 x1).1 ([x1]))).2, ())) [] h (by kernel_rfl) trivial (congrArg (fun z => (z.1, z.2, ())) (show (((grpChanged x0 (D_slices_Insert_S_int_int_ x0.2.2 (D_slices_BinarySearch_S_int_int_ x0.2.2 x1).1 ([x1]))).1, (grpChanged x0 (D_slices_Insert_S_int_int_ x0.2.2 (D_slices_BinarySearch_S_int_int_ x0.2.2 x1).1 ([x1]))).2)) = D_impl_JoinGroup x0 x1 from by first | rfl | (unfold D_impl_JoinGroup; rw [if_pos (notF h1), if_neg (neT h2)])))

def D_impl_LeaveGroup (x0 : T72) (x1 : Int) : T72 × Bool := (if (validGroup x0) = true then (if (D_slices_BinarySearch_S_int_int_ x0.2.2 x1).2 = true then ((grpChanged x0 (D_slices_Delete_S_int_int_ x0.2.2 (D_slices_BinarySearch_S_int_int_ x0.2.2 x1).1 ((D_slices_BinarySearch_S_int_int_ x0.2.2 x1).1 + 1))).1, (grpChanged x0 (D_slices_Delete_S_int_int_ x0.2.2 (D_slices_BinarySearch_S_int_int_ x0.2.2 x1).1 ((D_slices_BinarySearch_S_int_int_ x0.2.2 x1).1 + 1))).2) else (x0, false)) else (x0, false))
def S_impl_LeaveGroup : Sum := { fid := 49, dom := [s72, (.int 3)], cod := [s72, (.bool 4)], dp := true, fz := false, pre := fun x => (fun (x0 : T72) (x1 : Int) => Sh.fit s72 x0) x.1 x.2.1, g := fun x => ((D_impl_LeaveGroup x.1 x.2.1).1, ((D_impl_LeaveGroup x.1 x.2.1).2, ())) }
def S_impl_LeaveGroup_tab : List (Nat × Sum) := [(116, S__impl_Group_clone), (117, S_slices_BinarySearch_S_int_int_), (118, S_impl_IsValidGroup), (120, S_slices_Delete_S_int_int_), (119, S__impl_Group_changed)]
theorem S_impl_LeaveGroup_ok : FnOK Try.prog 49 S_impl_LeaveGroup := by
  refine at_enter 36 (fun x => ⟨[(0, aG [cI x.1.1, cI x.1.2.1, .ro (.int 3) x.1.2.2]), (1, aI x.2.1)], []⟩) Try.func49 rfl (by kernel_rfl) (fun x => rfl) ?_
  rintro w0 Z0 ⟨x0, x1, u⟩ a w
  revert x0 x1
  intro (x0 : T72) (x1 : Int) hpre hlens h
  replace h : At w0 Z0 [] 36 ⟨[(0, aG [cI x0.1, cI x0.2.1, .ro (.int 3) x0.2.2]), (1, aI x1)], []⟩ a w := h
  replace hpre : (fun (x0 : T72) (x1 : Int) => Sh.fit s72 x0) x0 x1 := hpre
  have hl1 : List.length x0.2.2 ≤ 9223372036854775807 := hlens.1.2.2.1
  have hT : TabOK Try.prog S_impl_LeaveGroup_tab := (.cons S__impl_Group_clone_ok (.cons S_slices_BinarySearch_S_int_int__ok (.cons S_impl_IsValidGroup_ok (.cons S_slices_Delete_S_int_int__ok (.cons S__impl_Group_changed_ok .nil)))))
  have hf0 : Sh.fit s72 x0 := hpre
  have hn0_1 : List.length x0.2.2 ≤ 1073741824 := hf0.2.2.1
  refine wp_seq ?_
  refine at_regq (T := S_impl_LeaveGroup_tab) [{ ids := [1] }, { ids := [2] }] { ts := [1, 2, 4, 5], os := [1, 2] } [] gamOK hT h (by kernel_rfl) trivial ?_
  intro a w h
  refine then_normal ?_
  refine wp_seq ?_
  refine at_regq (T := S_impl_LeaveGroup_tab) [{}, { ids := [3] }, { ids := [4] }] { ts := [1, 2, 4, 5, 6], os := [1, 2, 3, 4] } [(fun (x0 : T72) => Sh.fit s72 x0) x0] gamOK hT h (by kernel_rfl) ⟨(by exact hf0), trivial⟩ ?_
  intro a w h
  refine then_normal ?_
  refine wp_seq ?_
  refine at_regq (T := S_impl_LeaveGroup_tab) [] { ts := [2, 4, 5, 6, 7, 8], os := [1, 2, 3, 4] } [(fun (x0 : (List Int)) (x1 : Int) => Sh.fit s34 x0) x0.2.2 x1] gamOK hT h (by kernel_rfl) ⟨(by exact hf0.2.2), trivial⟩ ?_
  intro a w h
  refine then_normal ?_
  refine wp_seq ?_
  refine wp_seq ?_
  rcases Bool.eq_false_or_eq_true (!(validGroup x0)) with h1 | h1
  · skip
    refine at_reg (T := S_impl_LeaveGroup_tab) [{}, {}, { hint := some (aB true) }] { ts := [2, 4, 5, 6, 7, 24], os := [1, 2, 3, 4] } ⟨[(2, aP 1 0), (4, aP 2 0), (5, aB false), (6, aP 4 0), (7, aI (D_slices_BinarySearch_S_int_int_ x0.2.2 x1).1), (24, aB true)], [(1, oX 72 [cI x0.1, cI x0.2.1, .ro (.int 3) x0.2.2]), (2, oX 72 [cI 0, cI 0, cN]), (3, oR (.int 3) x0.2.2), (4, oX 72 [cI x0.1, cI x0.2.1, .sl 3])]⟩ [(fun (x0 : T72) => Sh.fit s72 x0) x0, (AV.p (.c (.v (.bool (!(validGroup x0))))) = AV.p (.c (.v (.bool true))))] gamOK hT h (by kernel_rfl) ⟨(by exact hf0), hint_bool (h1), trivial⟩ ?_
    intro a w h
    refine then_normal ?_
    refine at_test true h (by kernel_rfl) (fun hh => ?_) (fun hh => nomatch hh)
    refine wp_seq ?_
    refine at_regq (T := S_impl_LeaveGroup_tab) [] { ts := [2, 4, 5, 6, 7], os := [1, 2, 3, 4] } [] gamOK hT h (by kernel_rfl) trivial ?_
    intro a w h
    refine then_normal ?_
    refine wp_ret ?_
    refine then_ret ?_
    exact at_return (S := S_impl_LeaveGroup) (x := (x0, x1, ())) (x0, (false, ())) [] h (by kernel_rfl) trivial (congrArg (fun z => (z.1, z.2, ())) (show ((x0, false)) = D_impl_LeaveGroup x0 x1 from by first | rfl | (unfold D_impl_LeaveGroup; rw [if_neg (neT (notT h1))])))
  · skip
    have hvh1 := validGroup_t (notF h1)
    refine at_reg (T := S_impl_LeaveGroup_tab) [{}, {}, { hint := some (aB false) }] { ts := [2, 4, 5, 6, 7, 24], os := [1, 2, 3, 4] } ⟨[(2, aP 1 0), (4, aP 2 0), (5, aB false), (6, aP 4 0), (7, aI (D_slices_BinarySearch_S_int_int_ x0.2.2 x1).1), (24, aB (!(D_slices_BinarySearch_S_int_int_ x0.2.2 x1).2))], [(1, oX 72 [cI x0.1, cI x0.2.1, .ro (.int 3) x0.2.2]), (2, oX 72 [cI 0, cI 0, cN]), (3, oR (.int 3) x0.2.2), (4, oX 72 [cI x0.1, cI x0.2.1, .sl 3])]⟩ [(fun (x0 : T72) => Sh.fit s72 x0) x0, (AV.p (.c (.v (.bool (!(validGroup x0))))) = AV.p (.c (.v (.bool false))))] gamOK hT h (by kernel_rfl) ⟨(by exact hf0), hint_bool (h1), trivial⟩ ?_
    intro a w h
    refine then_normal ?_
    refine at_test (!(D_slices_BinarySearch_S_int_int_ x0.2.2 x1).2) h (by kernel_rfl) (fun h2 => ?_) (fun h2 => ?_)
    · replace h2 : (D_slices_BinarySearch_S_int_int_ x0.2.2 x1).2 = false := notT h2
      have hbs := bs_fact x0.2.2 x1
      refine wp_seq ?_
      refine at_regq (T := S_impl_LeaveGroup_tab) [] { ts := [2, 4, 5, 6, 7], os := [1, 2, 3, 4] } [] gamOK hT h (by kernel_rfl) trivial ?_
      intro a w h
      refine then_normal ?_
      refine wp_ret ?_
      refine then_ret ?_
      exact at_return (S := S_impl_LeaveGroup) (x := (x0, x1, ())) (x0, (false, ())) [] h (by kernel_rfl) trivial (congrArg (fun z => (z.1, z.2, ())) (show ((x0, false)) = D_impl_LeaveGroup x0 x1 from by first | rfl | (unfold D_impl_LeaveGroup; rw [if_pos (notF h1), if_neg (neT h2)])))
    · replace h2 : (D_slices_BinarySearch_S_int_int_ x0.2.2 x1).2 = true := notF h2
      have hbs := bs_fact x0.2.2 x1
      have hbt := bs_true (xs := x0.2.2) (v := x1) (by simpa using h2)
      refine wp_skip ?_
      refine then_normal ?_
      refine wp_seq ?_
      refine at_anyq (T := S_impl_LeaveGroup_tab) [{}, {}, {}, {}, {}, { nw := true }, { ids := [5] }, { ids := [6] }, {}, {}, {}, {}] { ts := [4, 5], os := [2, 6] } [I64 ((D_slices_BinarySearch_S_int_int_ x0.2.2 x1).1 + 1), (fun (x0 : List Int) (x1 x2 : Int) => 0 ≤ x1 ∧ x1 ≤ x2 ∧ x2 ≤ ((List.length x0 : Nat) : Int)) x0.2.2 (D_slices_BinarySearch_S_int_int_ x0.2.2 x1).1 ((D_slices_BinarySearch_S_int_int_ x0.2.2 x1).1 + 1), (fun (x0 : T72) (x1 : (List Int)) => Sh.fit s72 x0 ∧ Sh.fit s34 x1 ∧ (0 ≤ x0.2.1 ∧ x0.2.1 ≤ 100000)) x0 (D_slices_Delete_S_int_int_ x0.2.2 (D_slices_BinarySearch_S_int_int_ x0.2.2 x1).1 ((D_slices_BinarySearch_S_int_int_ x0.2.2 x1).1 + 1))] gamOK hT mixed h (by kernel_rfl) ⟨⟨by first | omega | (simp only [List.length_append, List.length_cons, List.length_nil, List.length_set, List.length_take, List.length_drop, List.length_replicate, List.length_map, Nat.min_def]; omega) | (simp; done) | (simp; omega) | done, by first | omega | (simp only [List.length_append, List.length_cons, List.length_nil, List.length_set, List.length_take, List.length_drop, List.length_replicate, List.length_map, Nat.min_def]; omega) | (simp; done) | (simp; omega) | done⟩, (by exact ⟨by omega, by omega, by omega⟩), (by exact ⟨hf0, Sh.fit_len rfl (by unfold D_slices_Delete_S_int_int_ delAt; simp; omega), by omega⟩), trivial⟩ ?_
      intro a w h
      refine then_normal ?_
      refine wp_ret ?_
      exact at_return (S := S_impl_LeaveGroup) (x := (x0, x1, ())) ((grpChanged x0 (D_slices_Delete_S_int_int_ x0.2.2 (D_slices_BinarySearch_S_int_int_ x0.2.2 x1).1 ((D_slices_BinarySearch_S_int_int_ x0.2.2 x1).1 + 1))).1, ((grpChanged x0 (D_slices_Delete_S_int_int_ x0.2.2 (D_slices_BinarySearch_S_int_int_ x0.2.2 x1).1 ((D_slices_BinarySearch_S_int_int_ x0.2.2 x1).1 + 1))).2, ())) [] h (by kernel_rfl) trivial (congrArg (fun z => (z.1, z.2, ())) (show (((grpChanged x0 (D_slices_Delete_S_int_int_ x0.2.2 (D_slices_BinarySearch_S_int_int_ x0.2.2 x1).1 ((D_slices_BinarySearch_S_int_int_ x0.2.2 x1).1 + 1))).1, (grpChanged x0 (D_slices_Delete_S_int_int_ x0.2.2 (D_slices_BinarySearch_S_int_int_ x0.2.2 x1).1 ((D_slices_BinarySearch_S_int_int_ x0.2.2 x1).1 + 1))).2)) = D_impl_LeaveGroup x0 x1 from by first | rfl | (unfold D_impl_LeaveGroup; rw [if_pos (notF h1), if_pos h2])))

def D_spec_JoinGroup (x0 : T72) (x1 : Int) : T72 × Bool := (if (validGroup x0) = true then (if (validGroup (x0.1, (IntKind.i64.wrap (x0.2.1 + 1), (((([] : List Int) ++ (List.drop 0 (List.take (twL (fun e => decide (e < x1)) x0.2.2) x0.2.2))) ++ ([x1])) ++ (List.drop (twL (fun e => decide (e < x1)) x0.2.2) (List.take (List.length x0.2.2) x0.2.2)))))) = true then ((x0.1, (IntKind.i64.wrap (x0.2.1 + 1), (((([] : List Int) ++ (List.drop 0 (List.take (twL (fun e => decide (e < x1)) x0.2.2) x0.2.2))) ++ ([x1])) ++ (List.drop (twL (fun e => decide (e < x1)) x0.2.2) (List.take (List.length x0.2.2) x0.2.2))))), true) else (x0, false)) else (x0, false))
def S_spec_JoinGroup : Sum := { fid := 74, dom := [s72, (.int 3)], cod := [s72, (.bool 4)], dp := true, fz := false, pre := fun x => (fun (x0 : T72) (x1 : Int) => Sh.fit s72 x0) x.1 x.2.1, g := fun x => ((D_spec_JoinGroup x.1 x.2.1).1, ((D_spec_JoinGroup x.1 x.2.1).2, ())) }
def S_spec_JoinGroup_tab : List (Nat × Sum) := [(114, S_spec_IsValidGroup), (115, S_spec_l27Copy)]
theorem S_spec_JoinGroup_ok : FnOK Try.prog 74 S_spec_JoinGroup := by
  refine at_enter 56 (fun x => ⟨[(0, aG [cI x.1.1, cI x.1.2.1, .ro (.int 3) x.1.2.2]), (1, aI x.2.1)], []⟩) Try.func74 rfl (by kernel_rfl) (fun x => rfl) ?_
  rintro w0 Z0 ⟨x0, x1, u⟩ a w
  revert x0 x1
  intro (x0 : T72) (x1 : Int) hpre hlens h
  replace h : At w0 Z0 [] 56 ⟨[(0, aG [cI x0.1, cI x0.2.1, .ro (.int 3) x0.2.2]), (1, aI x1)], []⟩ a w := h
  replace hpre : (fun (x0 : T72) (x1 : Int) => Sh.fit s72 x0) x0 x1 := hpre
  have hl1 : List.length x0.2.2 ≤ 9223372036854775807 := hlens.1.2.2.1
  have hT : TabOK Try.prog S_spec_JoinGroup_tab := (.cons S_spec_IsValidGroup_ok (.cons S_spec_l27Copy_ok .nil))
  have hf0 : Sh.fit s72 x0 := hpre
  have hn0_1 : List.length x0.2.2 ≤ 1073741824 := hf0.2.2.1
  refine wp_seq ?_
  refine at_regq (T := S_spec_JoinGroup_tab) [{ ids := [1] }, { ids := [2] }] { ts := [1, 2, 4, 5], os := [1, 2] } [] gamOK hT h (by kernel_rfl) trivial ?_
  intro a w h
  refine then_normal ?_
  refine wp_seq ?_
  refine at_regq (T := S_spec_JoinGroup_tab) [] { ts := [1, 2, 4, 5, 6], os := [1, 2] } [] gamOK hT h (by kernel_rfl) trivial ?_
  intro a w h
  refine then_normal ?_
  refine wp_seq ?_
  refine wp_block ?_
  replace h := at_out (σ' := ⟨[(1, aI x1), (2, aP 1 0), (4, aP 2 0), (5, aB false), (6, aI 0)], [(1, oX 72 [cI x0.1, cI x0.2.1, .ro (.int 3) x0.2.2]), (2, oX 72 [cI 0, cI 0, cN])]⟩) { ts := [1, 2, 4, 5, 6], os := [1, 2] } h (by kernel_rfl)
  refine at_loop (fun i : Nat => (⟨[(1, aI x1), (2, aP 1 0), (4, aP 2 0), (5, aB false), (6, aI ((i : Nat) : Int))], [(1, oX 72 [cI x0.1, cI x0.2.1, .ro (.int 3) x0.2.2]), (2, oX 72 [cI 0, cI 0, cN])]⟩ : St)) (fun i => (i ≤ List.length x0.2.2 ∧ allTo1 (fun e => decide (e < x1)) x0.2.2 0 i)) (fun i => List.length x0.2.2 - i) (0) h (st_congr1 (fun (d0 : Int) => (⟨[(1, aI x1), (2, aP 1 0), (4, aP 2 0), (5, aB false), (6, aI d0)], [(1, oX 72 [cI x0.1, cI x0.2.1, .ro (.int 3) x0.2.2]), (2, oX 72 [cI 0, cI 0, cN])]⟩ : St)) (show (0 : Int) = (((0) : Nat) : Int) from by first | with_reducible rfl | (rfl) | rfl)) (by exact ⟨Nat.zero_le _, allTo1_zero⟩) ?_
  intro i a w hok0 h
  refine wp_seq ?_
  refine wp_seq ?_
  by_cases h1 : ((i : Nat) : Int) < ((List.length x0.2.2 : Nat) : Int)
  · skip
    refine at_regq (T := S_spec_JoinGroup_tab) [{}, {}, {}, {}, { hint := some (aB true) }] { ts := [1, 2, 4, 5, 6, 14, 15, 16, 17, 18, 19, 20, 21], os := [1, 2] } [(AV.p (.c (.v (.bool (decide (((i : Nat) : Int) < ((List.length x0.2.2 : Nat) : Int)))))) = AV.p (.c (.v (.bool true)))), (0 : Int) ≤ ((i : Nat) : Int) ∧ ((i : Nat) : Int) < ((List.length x0.2.2 : Nat) : Int)] gamOK hT h (by kernel_rfl) ⟨hint_bool (decide_eq_true h1), (by refine ⟨?_, ?_⟩ <;> (first | omega | (simp only [List.length_append, List.length_cons, List.length_nil, List.length_set, List.length_take, List.length_drop, List.length_replicate, List.length_map, Nat.min_def]; omega) | (simp; done) | (simp; omega) | done)), trivial⟩ ?_
    intro a w h
    refine then_normal ?_
    refine at_test (decide ((x0.2.2.getD i 0) < x1)) h (by kernel_rfl) (fun h2 => ?_) (fun h2 => ?_)
    · replace h2 : (x0.2.2.getD i 0) < x1 := of_decide_eq_true h2
      refine wp_skip ?_
      refine then_normal ?_
      refine wp_block ?_
      refine at_reg (T := S_spec_JoinGroup_tab) [{}, { nw := true }] { ts := [1, 2, 4, 5, 6, 14, 15, 16, 17, 18, 19, 20], os := [1, 2] } ⟨[(1, aI x1), (2, aP 1 0), (4, aP 2 0), (5, aB false), (6, aI (((i : Nat) : Int) + 1)), (14, aP 1 2), (15, aF (.int 3) x0.2.2), (16, aI ((i : Nat) : Int)), (17, aR (.int 3) (x0.2.2.getD i 0) 0), (18, aI (x0.2.2.getD i 0)), (19, aI x1), (20, aB (decide ((x0.2.2.getD i 0) < x1)))], [(1, oX 72 [cI x0.1, cI x0.2.1, .ro (.int 3) x0.2.2]), (2, oX 72 [cI 0, cI 0, cN])]⟩ [I64 (((i : Nat) : Int) + 1)] gamOK hT h (by kernel_rfl) ⟨⟨by first | omega | (simp only [List.length_append, List.length_cons, List.length_nil, List.length_set, List.length_take, List.length_drop, List.length_replicate, List.length_map, Nat.min_def]; omega) | (simp; done) | (simp; omega) | done, by first | omega | (simp only [List.length_append, List.length_cons, List.length_nil, List.length_set, List.length_take, List.length_drop, List.length_replicate, List.length_map, Nat.min_def]; omega) | (simp; done) | (simp; omega) | done⟩, trivial⟩ ?_
      intro a w h
      refine in_normal ?_
      replace h := at_out (σ' := ⟨[(1, aI x1), (2, aP 1 0), (4, aP 2 0), (5, aB false), (6, aI (((i : Nat) : Int) + 1))], [(1, oX 72 [cI x0.1, cI x0.2.1, .ro (.int 3) x0.2.2]), (2, oX 72 [cI 0, cI 0, cN])]⟩) { ts := [1, 2, 4, 5, 6], os := [1, 2] } h (by kernel_rfl)
      exact ⟨i + 1, at_eq h (st_congr1 (fun (d0 : Int) => (⟨[(1, aI x1), (2, aP 1 0), (4, aP 2 0), (5, aB false), (6, aI d0)], [(1, oX 72 [cI x0.1, cI x0.2.1, .ro (.int 3) x0.2.2]), (2, oX 72 [cI 0, cI 0, cN])]⟩ : St)) (show (((i : Nat) : Int) + 1 : Int) = (((i + 1) : Nat) : Int) from by first | with_reducible rfl | (omega) | rfl)), (by exact ⟨by omega, allTo1_succ hok0.2 (decide_eq_true (by assumption))⟩), (by omega)⟩
    · replace h2 : ¬ ((x0.2.2.getD i 0) < x1) := of_decide_eq_false h2
      refine wp_exit ?_
      refine then_exit ?_
      replace h := at_out (σ' := ⟨[(1, aI x1), (2, aP 1 0), (4, aP 2 0), (5, aB false), (6, aI ((i : Nat) : Int))], [(1, oX 72 [cI x0.1, cI x0.2.1, .ro (.int 3) x0.2.2]), (2, oX 72 [cI 0, cI 0, cN])]⟩) { ts := [1, 2, 4, 5, 6], os := [1, 2] } h (by kernel_rfl)
      replace h := at_eq (σ' := ⟨[(1, aI x1), (2, aP 1 0), (4, aP 2 0), (5, aB false), (6, aI ((twL (fun e => decide (e < x1)) x0.2.2 : Nat) : Int))], [(1, oX 72 [cI x0.1, cI x0.2.1, .ro (.int 3) x0.2.2]), (2, oX 72 [cI 0, cI 0, cN])]⟩) h (st_congr1 (fun (d0 : Int) => (⟨[(1, aI x1), (2, aP 1 0), (4, aP 2 0), (5, aB false), (6, aI d0)], [(1, oX 72 [cI x0.1, cI x0.2.1, .ro (.int 3) x0.2.2]), (2, oX 72 [cI 0, cI 0, cN])]⟩ : St)) (show (((i : Nat) : Int) : Int) = ((twL (fun e => decide (e < x1)) x0.2.2 : Nat) : Int) from by first | with_reducible rfl | (rw [twL_eq (z := 0) hok0.1 hok0.2 (fun hk => by first | (exfalso; omega) | exact decide_eq_false (by assumption))]) | rfl))
      have htw := twL_le (fun e => decide (e < x1)) x0.2.2
      refine then_exit ?_
      refine in_hit ?_
      refine then_normal ?_
      refine wp_seq ?_
      refine at_reg (T := S_spec_JoinGroup_tab) [{}, {}, {}, {}, {}, {}, { ids := [3] }] { ts := [1, 2, 4, 5, 6, 7], os := [1, 2, 3] } ⟨[(1, aI x1), (2, aP 1 0), (4, aP 2 0), (5, aB false), (6, aI ((twL (fun e => decide (e < x1)) x0.2.2 : Nat) : Int)), (7, aP 3 0)], [(1, oX 72 [cI x0.1, cI x0.2.1, .ro (.int 3) x0.2.2]), (2, oX 72 [cI 0, cI 0, cN]), (3, oX 72 [cI x0.1, cI (IntKind.i64.wrap (x0.2.1 + 1)), cN])]⟩ [] gamOK hT h (by kernel_rfl) trivial ?_
      intro a w h
      refine then_normal ?_
      refine wp_seq ?_
      refine at_anyq (T := S_spec_JoinGroup_tab) [{ ids := [4] }, {}, {}, {}, {}, { ids := [5] }, {}, { ids := [6] }, { ids := [7] }, {}, {}, {}, {}, { ids := [8] }, {}, {}] { ts := [2, 4, 5, 7], os := [1, 2, 3, 8] } [(0 : Int) ≤ 0 ∧ 0 ≤ ((twL (fun e => decide (e < x1)) x0.2.2 : Nat) : Int) ∧ ((twL (fun e => decide (e < x1)) x0.2.2 : Nat) : Int) ≤ ((List.length x0.2.2 : Nat) : Int), (List.length ([] : List Int) + List.length (List.drop 0 (List.take (twL (fun e => decide (e < x1)) x0.2.2) x0.2.2))) * 8 ≤ 140737488355328, (List.length (([] : List Int) ++ (List.drop 0 (List.take (twL (fun e => decide (e < x1)) x0.2.2) x0.2.2))) + List.length ([x1])) * 8 ≤ 140737488355328, (0 : Int) ≤ ((twL (fun e => decide (e < x1)) x0.2.2 : Nat) : Int) ∧ ((twL (fun e => decide (e < x1)) x0.2.2 : Nat) : Int) ≤ ((List.length x0.2.2 : Nat) : Int) ∧ ((List.length x0.2.2 : Nat) : Int) ≤ ((List.length x0.2.2 : Nat) : Int), (List.length ((([] : List Int) ++ (List.drop 0 (List.take (twL (fun e => decide (e < x1)) x0.2.2) x0.2.2))) ++ ([x1])) + List.length (List.drop (twL (fun e => decide (e < x1)) x0.2.2) (List.take (List.length x0.2.2) x0.2.2))) * 8 ≤ 140737488355328] gamOK hT mixed h (by kernel_rfl) ⟨(by refine ⟨?_, ?_, ?_⟩ <;> (first | omega | (simp only [List.length_append, List.length_cons, List.length_nil, List.length_set, List.length_take, List.length_drop, List.length_replicate, List.length_map, Nat.min_def]; omega) | (simp; done) | (simp; omega) | done)), (by (have hL0 := (show List.length (List.drop 0 (List.take (twL (fun e => decide (e < x1)) x0.2.2) x0.2.2)) ≤ 1073741824 from ((Sh.fit_drop (Sh.fit_take hf0.2.2 (twL (fun e => decide (e < x1)) x0.2.2)) 0)).1); first | omega | (simp only [List.length_append, List.length_cons, List.length_nil, List.length_set, List.length_take, List.length_drop, List.length_replicate, List.length_map, Nat.min_def]; omega) | (simp; done) | (simp; omega) | done)), (by first | omega | (simp only [List.length_append, List.length_cons, List.length_nil, List.length_set, List.length_take, List.length_drop, List.length_replicate, List.length_map, Nat.min_def]; omega) | (simp; done) | (simp; omega) | done), (by refine ⟨?_, ?_, ?_⟩ <;> (first | omega | (simp only [List.length_append, List.length_cons, List.length_nil, List.length_set, List.length_take, List.length_drop, List.length_replicate, List.length_map, Nat.min_def]; omega) | (simp; done) | (simp; omega) | done)), (by (have hL0 := (show List.length (List.drop (twL (fun e => decide (e < x1)) x0.2.2) (List.take (List.length x0.2.2) x0.2.2)) ≤ 1073741824 from ((Sh.fit_drop (Sh.fit_take hf0.2.2 (List.length x0.2.2)) (twL (fun e => decide (e < x1)) x0.2.2))).1); first | omega | (simp only [List.length_append, List.length_cons, List.length_nil, List.length_set, List.length_take, List.length_drop, List.length_replicate, List.length_map, Nat.min_def]; omega) | (simp; done) | (simp; omega) | done)), trivial⟩ ?_
      intro a w h
      refine then_normal ?_
      refine wp_seq ?_
      refine wp_seq ?_
      rcases Bool.eq_false_or_eq_true (!(validGroup x0)) with h3 | h3
      · skip
        refine at_regq (T := S_spec_JoinGroup_tab) [{}, {}, { hint := some (aB true) }] { ts := [2, 4, 5, 7, 52], os := [1, 2, 3, 8] } [(fun (x0 : T72) => Sh.fit s72 x0) x0, (AV.p (.c (.v (.bool (!(validGroup x0))))) = AV.p (.c (.v (.bool true))))] gamOK hT h (by kernel_rfl) ⟨(by first | exact hf0 | exact ⟨trivial, trivial, Sh.fit_len rfl (by simp; omega)⟩), hint_bool (h3), trivial⟩ ?_
        intro a w h
        refine then_normal ?_
        refine at_test true h (by kernel_rfl) (fun hh => ?_) (fun hh => nomatch hh)
        refine wp_seq ?_
        refine at_regq (T := S_spec_JoinGroup_tab) [{}, { ids := [9] }] { ts := [4, 5, 7], os := [2, 3, 8, 9] } [(fun (x0 : T72) => Sh.fit s72 x0) x0] gamOK hT h (by kernel_rfl) ⟨(by exact hf0), trivial⟩ ?_
        intro a w h
        refine then_normal ?_
        refine wp_ret ?_
        refine then_ret ?_
        exact at_return (S := S_spec_JoinGroup) (x := (x0, x1, ())) (x0, (false, ())) [] h (by kernel_rfl) trivial (congrArg (fun z => (z.1, z.2, ())) (show ((x0, false)) = D_spec_JoinGroup x0 x1 from by first | rfl | (unfold D_spec_JoinGroup; rw [if_neg (neT (notT h3))])))
      · skip
        have hvh3 := validGroup_t (notF h3)
        refine at_regq (T := S_spec_JoinGroup_tab) [{}, {}, { hint := some (aB false) }] { ts := [2, 4, 5, 7, 52], os := [1, 2, 3, 8] } [(fun (x0 : T72) => Sh.fit s72 x0) x0, (AV.p (.c (.v (.bool (!(validGroup x0))))) = AV.p (.c (.v (.bool false)))), (fun (x0 : T72) => Sh.fit s72 x0) (x0.1, (IntKind.i64.wrap (x0.2.1 + 1), (((([] : List Int) ++ (List.drop 0 (List.take (twL (fun e => decide (e < x1)) x0.2.2) x0.2.2))) ++ ([x1])) ++ (List.drop (twL (fun e => decide (e < x1)) x0.2.2) (List.take (List.length x0.2.2) x0.2.2)))))] gamOK hT h (by kernel_rfl) ⟨(by first | exact hf0 | exact ⟨trivial, trivial, Sh.fit_len rfl (by simp; omega)⟩), hint_bool (h3), (by first | exact hf0 | exact ⟨trivial, trivial, Sh.fit_len rfl (by simp; omega)⟩), trivial⟩ ?_
        intro a w h
        refine then_normal ?_
        refine at_test (!(validGroup (x0.1, (IntKind.i64.wrap (x0.2.1 + 1), (((([] : List Int) ++ (List.drop 0 (List.take (twL (fun e => decide (e < x1)) x0.2.2) x0.2.2))) ++ ([x1])) ++ (List.drop (twL (fun e => decide (e < x1)) x0.2.2) (List.take (List.length x0.2.2) x0.2.2))))))) h (by kernel_rfl) (fun h4 => ?_) (fun h4 => ?_)
        · replace h4 : (validGroup (x0.1, (IntKind.i64.wrap (x0.2.1 + 1), (((([] : List Int) ++ (List.drop 0 (List.take (twL (fun e => decide (e < x1)) x0.2.2) x0.2.2))) ++ ([x1])) ++ (List.drop (twL (fun e => decide (e < x1)) x0.2.2) (List.take (List.length x0.2.2) x0.2.2)))))) = false := notT h4
          refine wp_seq ?_
          refine at_regq (T := S_spec_JoinGroup_tab) [{}, { ids := [9] }] { ts := [4, 5, 7], os := [2, 3, 8, 9] } [(fun (x0 : T72) => Sh.fit s72 x0) x0] gamOK hT h (by kernel_rfl) ⟨(by exact hf0), trivial⟩ ?_
          intro a w h
          refine then_normal ?_
          refine wp_ret ?_
          refine then_ret ?_
          exact at_return (S := S_spec_JoinGroup) (x := (x0, x1, ())) (x0, (false, ())) [] h (by kernel_rfl) trivial (congrArg (fun z => (z.1, z.2, ())) (show ((x0, false)) = D_spec_JoinGroup x0 x1 from by first | rfl | (unfold D_spec_JoinGroup; rw [if_pos (notF h3), if_neg (neT h4)])))
        · replace h4 : (validGroup (x0.1, (IntKind.i64.wrap (x0.2.1 + 1), (((([] : List Int) ++ (List.drop 0 (List.take (twL (fun e => decide (e < x1)) x0.2.2) x0.2.2))) ++ ([x1])) ++ (List.drop (twL (fun e => decide (e < x1)) x0.2.2) (List.take (List.length x0.2.2) x0.2.2)))))) = true := notF h4
          have hvh4 := validGroup_t h4
          refine wp_skip ?_
          refine then_normal ?_
          refine wp_seq ?_
          refine at_regq (T := S_spec_JoinGroup_tab) [] { ts := [4, 5], os := [2, 8] } [] gamOK hT h (by kernel_rfl) trivial ?_
          intro a w h
          refine then_normal ?_
          refine wp_ret ?_
          exact at_return (S := S_spec_JoinGroup) (x := (x0, x1, ())) ((x0.1, (IntKind.i64.wrap (x0.2.1 + 1), (((([] : List Int) ++ (List.drop 0 (List.take (twL (fun e => decide (e < x1)) x0.2.2) x0.2.2))) ++ ([x1])) ++ (List.drop (twL (fun e => decide (e < x1)) x0.2.2) (List.take (List.length x0.2.2) x0.2.2))))), (true, ())) [] h (by kernel_rfl) trivial (congrArg (fun z => (z.1, z.2, ())) (show (((x0.1, (IntKind.i64.wrap (x0.2.1 + 1), (((([] : List Int) ++ (List.drop 0 (List.take (twL (fun e => decide (e < x1)) x0.2.2) x0.2.2))) ++ ([x1])) ++ (List.drop (twL (fun e => decide (e < x1)) x0.2.2) (List.take (List.length x0.2.2) x0.2.2))))), true)) = D_spec_JoinGroup x0 x1 from by first | rfl | (unfold D_spec_JoinGroup; rw [if_pos (notF h3), if_pos h4])))
  · skip
    refine at_regq (T := S_spec_JoinGroup_tab) [{}, {}, {}, {}, { hint := some (aB false) }] { ts := [1, 2, 4, 5, 6, 14, 15, 16, 17, 18, 19, 20, 21], os := [1, 2] } [(AV.p (.c (.v (.bool (decide (((i : Nat) : Int) < ((List.length x0.2.2 : Nat) : Int)))))) = AV.p (.c (.v (.bool false))))] gamOK hT h (by kernel_rfl) ⟨hint_bool (decide_eq_false h1), trivial⟩ ?_
    intro a w h
    refine then_normal ?_
    refine at_test false h (by kernel_rfl) (fun hh => nomatch hh) (fun hh => ?_)
    refine wp_exit ?_
    refine then_exit ?_
    replace h := at_out (σ' := ⟨[(1, aI x1), (2, aP 1 0), (4, aP 2 0), (5, aB false), (6, aI ((i : Nat) : Int))], [(1, oX 72 [cI x0.1, cI x0.2.1, .ro (.int 3) x0.2.2]), (2, oX 72 [cI 0, cI 0, cN])]⟩) { ts := [1, 2, 4, 5, 6], os := [1, 2] } h (by kernel_rfl)
    replace h := at_eq (σ' := ⟨[(1, aI x1), (2, aP 1 0), (4, aP 2 0), (5, aB false), (6, aI ((twL (fun e => decide (e < x1)) x0.2.2 : Nat) : Int))], [(1, oX 72 [cI x0.1, cI x0.2.1, .ro (.int 3) x0.2.2]), (2, oX 72 [cI 0, cI 0, cN])]⟩) h (st_congr1 (fun (d0 : Int) => (⟨[(1, aI x1), (2, aP 1 0), (4, aP 2 0), (5, aB false), (6, aI d0)], [(1, oX 72 [cI x0.1, cI x0.2.1, .ro (.int 3) x0.2.2]), (2, oX 72 [cI 0, cI 0, cN])]⟩ : St)) (show (((i : Nat) : Int) : Int) = ((twL (fun e => decide (e < x1)) x0.2.2 : Nat) : Int) from by first | with_reducible rfl | (rw [twL_eq (z := 0) hok0.1 hok0.2 (fun hk => by first | (exfalso; omega) | exact decide_eq_false (by assumption))]) | rfl))
    have htw := twL_le (fun e => decide (e < x1)) x0.2.2
    refine then_exit ?_
    refine in_hit ?_
    refine then_normal ?_
    refine wp_seq ?_
    refine at_reg (T := S_spec_JoinGroup_tab) [{}, {}, {}, {}, {}, {}, { ids := [3] }] { ts := [1, 2, 4, 5, 6, 7], os := [1, 2, 3] } ⟨[(1, aI x1), (2, aP 1 0), (4, aP 2 0), (5, aB false), (6, aI ((twL (fun e => decide (e < x1)) x0.2.2 : Nat) : Int)), (7, aP 3 0)], [(1, oX 72 [cI x0.1, cI x0.2.1, .ro (.int 3) x0.2.2]), (2, oX 72 [cI 0, cI 0, cN]), (3, oX 72 [cI x0.1, cI (IntKind.i64.wrap (x0.2.1 + 1)), cN])]⟩ [] gamOK hT h (by kernel_rfl) trivial ?_
    intro a w h
    refine then_normal ?_
    refine wp_seq ?_
    refine at_anyq (T := S_spec_JoinGroup_tab) [{ ids := [4] }, {}, {}, {}, {}, { ids := [5] }, {}, { ids := [6] }, { ids := [7] }, {}, {}, {}, {}, { ids := [8] }, {}, {}] { ts := [2, 4, 5, 7], os := [1, 2, 3, 8] } [(0 : Int) ≤ 0 ∧ 0 ≤ ((twL (fun e => decide (e < x1)) x0.2.2 : Nat) : Int) ∧ ((twL (fun e => decide (e < x1)) x0.2.2 : Nat) : Int) ≤ ((List.length x0.2.2 : Nat) : Int), (List.length ([] : List Int) + List.length (List.drop 0 (List.take (twL (fun e => decide (e < x1)) x0.2.2) x0.2.2))) * 8 ≤ 140737488355328, (List.length (([] : List Int) ++ (List.drop 0 (List.take (twL (fun e => decide (e < x1)) x0.2.2) x0.2.2))) + List.length ([x1])) * 8 ≤ 140737488355328, (0 : Int) ≤ ((twL (fun e => decide (e < x1)) x0.2.2 : Nat) : Int) ∧ ((twL (fun e => decide (e < x1)) x0.2.2 : Nat) : Int) ≤ ((List.length x0.2.2 : Nat) : Int) ∧ ((List.length x0.2.2 : Nat) : Int) ≤ ((List.length x0.2.2 : Nat) : Int), (List.length ((([] : List Int) ++ (List.drop 0 (List.take (twL (fun e => decide (e < x1)) x0.2.2) x0.2.2))) ++ ([x1])) + List.length (List.drop (twL (fun e => decide (e < x1)) x0.2.2) (List.take (List.length x0.2.2) x0.2.2))) * 8 ≤ 140737488355328] gamOK hT mixed h (by kernel_rfl) ⟨(by refine ⟨?_, ?_, ?_⟩ <;> (first | omega | (simp only [List.length_append, List.length_cons, List.length_nil, List.length_set, List.length_take, List.length_drop, List.length_replicate, List.length_map, Nat.min_def]; omega) | (simp; done) | (simp; omega) | done)), (by (have hL0 := (show List.length (List.drop 0 (List.take (twL (fun e => decide (e < x1)) x0.2.2) x0.2.2)) ≤ 1073741824 from ((Sh.fit_drop (Sh.fit_take hf0.2.2 (twL (fun e => decide (e < x1)) x0.2.2)) 0)).1); first | omega | (simp only [List.length_append, List.length_cons, List.length_nil, List.length_set, List.length_take, List.length_drop, List.length_replicate, List.length_map, Nat.min_def]; omega) | (simp; done) | (simp; omega) | done)), (by first | omega | (simp only [List.length_append, List.length_cons, List.length_nil, List.length_set, List.length_take, List.length_drop, List.length_replicate, List.length_map, Nat.min_def]; omega) | (simp; done) | (simp; omega) | done), (by refine ⟨?_, ?_, ?_⟩ <;> (first | omega | (simp only [List.length_append, List.length_cons, List.length_nil, List.length_set, List.length_take, List.length_drop, List.length_replicate, List.length_map, Nat.min_def]; omega) | (simp; done) | (simp; omega) | done)), (by (have hL0 := (show List.length (List.drop (twL (fun e => decide (e < x1)) x0.2.2) (List.take (List.length x0.2.2) x0.2.2)) ≤ 1073741824 from ((Sh.fit_drop (Sh.fit_take hf0.2.2 (List.length x0.2.2)) (twL (fun e => decide (e < x1)) x0.2.2))).1); first | omega | (simp only [List.length_append, List.length_cons, List.length_nil, List.length_set, List.length_take, List.length_drop, List.length_replicate, List.length_map, Nat.min_def]; omega) | (simp; done) | (simp; omega) | done)), trivial⟩ ?_
    intro a w h
    refine then_normal ?_
    refine wp_seq ?_
    refine wp_seq ?_
    rcases Bool.eq_false_or_eq_true (!(validGroup x0)) with h5 | h5
    · skip
      refine at_regq (T := S_spec_JoinGroup_tab) [{}, {}, { hint := some (aB true) }] { ts := [2, 4, 5, 7, 52], os := [1, 2, 3, 8] } [(fun (x0 : T72) => Sh.fit s72 x0) x0, (AV.p (.c (.v (.bool (!(validGroup x0))))) = AV.p (.c (.v (.bool true))))] gamOK hT h (by kernel_rfl) ⟨(by first | exact hf0 | exact ⟨trivial, trivial, Sh.fit_len rfl (by simp; omega)⟩), hint_bool (h5), trivial⟩ ?_
      intro a w h
      refine then_normal ?_
      refine at_test true h (by kernel_rfl) (fun hh => ?_) (fun hh => nomatch hh)
      refine wp_seq ?_
      refine at_regq (T := S_spec_JoinGroup_tab) [{}, { ids := [9] }] { ts := [4, 5, 7], os := [2, 3, 8, 9] } [(fun (x0 : T72) => Sh.fit s72 x0) x0] gamOK hT h (by kernel_rfl) ⟨(by exact hf0), trivial⟩ ?_
      intro a w h
      refine then_normal ?_
      refine wp_ret ?_
      refine then_ret ?_
      exact at_return (S := S_spec_JoinGroup) (x := (x0, x1, ())) (x0, (false, ())) [] h (by kernel_rfl) trivial (congrArg (fun z => (z.1, z.2, ())) (show ((x0, false)) = D_spec_JoinGroup x0 x1 from by first | rfl | (unfold D_spec_JoinGroup; rw [if_neg (neT (notT h5))])))
    · skip
      have hvh5 := validGroup_t (notF h5)
      refine at_regq (T := S_spec_JoinGroup_tab) [{}, {}, { hint := some (aB false) }] { ts := [2, 4, 5, 7, 52], os := [1, 2, 3, 8] } [(fun (x0 : T72) => Sh.fit s72 x0) x0, (AV.p (.c (.v (.bool (!(validGroup x0))))) = AV.p (.c (.v (.bool false)))), (fun (x0 : T72) => Sh.fit s72 x0) (x0.1, (IntKind.i64.wrap (x0.2.1 + 1), (((([] : List Int) ++ (List.drop 0 (List.take (twL (fun e => decide (e < x1)) x0.2.2) x0.2.2))) ++ ([x1])) ++ (List.drop (twL (fun e => decide (e < x1)) x0.2.2) (List.take (List.length x0.2.2) x0.2.2)))))] gamOK hT h (by kernel_rfl) ⟨(by first | exact hf0 | exact ⟨trivial, trivial, Sh.fit_len rfl (by simp; omega)⟩), hint_bool (h5), (by first | exact hf0 | exact ⟨trivial, trivial, Sh.fit_len rfl (by simp; omega)⟩), trivial⟩ ?_
      intro a w h
      refine then_normal ?_
      refine at_test (!(validGroup (x0.1, (IntKind.i64.wrap (x0.2.1 + 1), (((([] : List Int) ++ (List.drop 0 (List.take (twL (fun e => decide (e < x1)) x0.2.2) x0.2.2))) ++ ([x1])) ++ (List.drop (twL (fun e => decide (e < x1)) x0.2.2) (List.take (List.length x0.2.2) x0.2.2))))))) h (by kernel_rfl) (fun h6 => ?_) (fun h6 => ?_)
      · replace h6 : (validGroup (x0.1, (IntKind.i64.wrap (x0.2.1 + 1), (((([] : List Int) ++ (List.drop 0 (List.take (twL (fun e => decide (e < x1)) x0.2.2) x0.2.2))) ++ ([x1])) ++ (List.drop (twL (fun e => decide (e < x1)) x0.2.2) (List.take (List.length x0.2.2) x0.2.2)))))) = false := notT h6
        refine wp_seq ?_
        refine at_regq (T := S_spec_JoinGroup_tab) [{}, { ids := [9] }] { ts := [4, 5, 7], os := [2, 3, 8, 9] } [(fun (x0 : T72) => Sh.fit s72 x0) x0] gamOK hT h (by kernel_rfl) ⟨(by exact hf0), trivial⟩ ?_
        intro a w h
        refine then_normal ?_
        refine wp_ret ?_
        refine then_ret ?_
        exact at_return (S := S_spec_JoinGroup) (x := (x0, x1, ())) (x0, (false, ())) [] h (by kernel_rfl) trivial (congrArg (fun z => (z.1, z.2, ())) (show ((x0, false)) = D_spec_JoinGroup x0 x1 from by first | rfl | (unfold D_spec_JoinGroup; rw [if_pos (notF h5), if_neg (neT h6)])))
      · replace h6 : (validGroup (x0.1, (IntKind.i64.wrap (x0.2.1 + 1), (((([] : List Int) ++ (List.drop 0 (List.take (twL (fun e => decide (e < x1)) x0.2.2) x0.2.2))) ++ ([x1])) ++ (List.drop (twL (fun e => decide (e < x1)) x0.2.2) (List.take (List.length x0.2.2) x0.2.2)))))) = true := notF h6
        have hvh6 := validGroup_t h6
        refine wp_skip ?_
        refine then_normal ?_
        refine wp_seq ?_
        refine at_regq (T := S_spec_JoinGroup_tab) [] { ts := [4, 5], os := [2, 8] } [] gamOK hT h (by kernel_rfl) trivial ?_
        intro a w h
        refine then_normal ?_
        refine wp_ret ?_
        exact at_return (S := S_spec_JoinGroup) (x := (x0, x1, ())) ((x0.1, (IntKind.i64.wrap (x0.2.1 + 1), (((([] : List Int) ++ (List.drop 0 (List.take (twL (fun e => decide (e < x1)) x0.2.2) x0.2.2))) ++ ([x1])) ++ (List.drop (twL (fun e => decide (e < x1)) x0.2.2) (List.take (List.length x0.2.2) x0.2.2))))), (true, ())) [] h (by kernel_rfl) trivial (congrArg (fun z => (z.1, z.2, ())) (show (((x0.1, (IntKind.i64.wrap (x0.2.1 + 1), (((([] : List Int) ++ (List.drop 0 (List.take (twL (fun e => decide (e < x1)) x0.2.2) x0.2.2))) ++ ([x1])) ++ (List.drop (twL (fun e => decide (e < x1)) x0.2.2) (List.take (List.length x0.2.2) x0.2.2))))), true)) = D_spec_JoinGroup x0 x1 from by first | rfl | (unfold D_spec_JoinGroup; rw [if_pos (notF h5), if_pos h6])))

def D_spec_LeaveGroup (x0 : T72) (x1 : Int) : T72 × Bool := (if (validGroup x0) = true then (if (validGroup (x0.1, (IntKind.i64.wrap (x0.2.1 + 1), (List.filter (fun e => !decide (e = x1)) x0.2.2)))) = true then (if ((List.length (List.filter (fun e => !decide (e = x1)) x0.2.2) : Nat) : Int) = ((List.length x0.2.2 : Nat) : Int) then (x0, false) else ((x0.1, (IntKind.i64.wrap (x0.2.1 + 1), (List.filter (fun e => !decide (e = x1)) x0.2.2))), true)) else (x0, false)) else (x0, false))
def S_spec_LeaveGroup : Sum := { fid := 47, dom := [s72, (.int 3)], cod := [s72, (.bool 4)], dp := true, fz := false, pre := fun x => (fun (x0 : T72) (x1 : Int) => Sh.fit s72 x0) x.1 x.2.1, g := fun x => ((D_spec_LeaveGroup x.1 x.2.1).1, ((D_spec_LeaveGroup x.1 x.2.1).2, ())) }
def S_spec_LeaveGroup_tab : List (Nat × Sum) := [(114, S_spec_IsValidGroup), (115, S_spec_l27Copy)]
theorem S_spec_LeaveGroup_ok : FnOK Try.prog 47 S_spec_LeaveGroup := by
  refine at_enter 58 (fun x => ⟨[(0, aG [cI x.1.1, cI x.1.2.1, .ro (.int 3) x.1.2.2]), (1, aI x.2.1)], []⟩) Try.func47 rfl (by kernel_rfl) (fun x => rfl) ?_
  rintro w0 Z0 ⟨x0, x1, u⟩ a w
  revert x0 x1
  intro (x0 : T72) (x1 : Int) hpre hlens h
  replace h : At w0 Z0 [] 58 ⟨[(0, aG [cI x0.1, cI x0.2.1, .ro (.int 3) x0.2.2]), (1, aI x1)], []⟩ a w := h
  replace hpre : (fun (x0 : T72) (x1 : Int) => Sh.fit s72 x0) x0 x1 := hpre
  have hl1 : List.length x0.2.2 ≤ 9223372036854775807 := hlens.1.2.2.1
  have hT : TabOK Try.prog S_spec_LeaveGroup_tab := (.cons S_spec_IsValidGroup_ok (.cons S_spec_l27Copy_ok .nil))
  have hf0 : Sh.fit s72 x0 := hpre
  have hn0_1 : List.length x0.2.2 ≤ 1073741824 := hf0.2.2.1
  refine wp_seq ?_
  refine at_regq (T := S_spec_LeaveGroup_tab) [{ ids := [1] }, { ids := [2] }] { ts := [1, 2, 4, 5], os := [1, 2] } [] gamOK hT h (by kernel_rfl) trivial ?_
  intro a w h
  refine then_normal ?_
  refine wp_seq ?_
  refine at_regq (T := S_spec_LeaveGroup_tab) [{}, {}, {}, {}, {}, {}, { ids := [3] }] { ts := [1, 2, 4, 5, 6], os := [1, 2, 3] } [] gamOK hT h (by kernel_rfl) trivial ?_
  intro a w h
  refine then_normal ?_
  refine wp_seq ?_
  refine wp_seq ?_
  refine at_regq (T := S_spec_LeaveGroup_tab) [] { ts := [1, 2, 4, 5, 6, 7], os := [1, 2, 3] } [] gamOK hT h (by kernel_rfl) trivial ?_
  intro a w h
  refine then_normal ?_
  refine wp_block ?_
  replace h := at_out (σ' := ⟨[(1, aI x1), (2, aP 1 0), (4, aP 2 0), (5, aB false), (6, aP 3 0), (7, aI 0)], [(1, oX 72 [cI x0.1, cI x0.2.1, .ro (.int 3) x0.2.2]), (2, oX 72 [cI 0, cI 0, cN]), (3, oX 72 [cI x0.1, cI (IntKind.i64.wrap (x0.2.1 + 1)), .sl 4]), (4, oR (.int 3) ([] : List Int))]⟩) { mt := [⟨some 3, 2, 4, true, (.int 3)⟩], ts := [1, 2, 4, 5, 6, 7], os := [1, 2, 3, 4] } h (by kernel_rfl)
  refine at_loop (fun i : Nat => (⟨[(1, aI x1), (2, aP 1 0), (4, aP 2 0), (5, aB false), (6, aP 3 0), (7, aI ((i : Nat) : Int))], [(1, oX 72 [cI x0.1, cI x0.2.1, .ro (.int 3) x0.2.2]), (2, oX 72 [cI 0, cI 0, cN]), (3, oX 72 [cI x0.1, cI (IntKind.i64.wrap (x0.2.1 + 1)), .sl 4]), (4, oR (.int 3) (List.filter (fun e => !decide (e = x1)) (List.take i x0.2.2)))]⟩ : St)) (fun i => i ≤ List.length x0.2.2) (fun i => List.length x0.2.2 - i) (0) h (st_congr2 (fun (d0 : List Int) (d1 : Int) => (⟨[(1, aI x1), (2, aP 1 0), (4, aP 2 0), (5, aB false), (6, aP 3 0), (7, aI d1)], [(1, oX 72 [cI x0.1, cI x0.2.1, .ro (.int 3) x0.2.2]), (2, oX 72 [cI 0, cI 0, cN]), (3, oX 72 [cI x0.1, cI (IntKind.i64.wrap (x0.2.1 + 1)), .sl 4]), (4, oR (.int 3) d0)]⟩ : St)) (show (([] : List Int) : List Int) = (List.filter (fun e => !decide (e = x1)) (List.take (0) x0.2.2)) from by first | with_reducible rfl | (first | rfl | simp) | rfl) (show (0 : Int) = (((0) : Nat) : Int) from by first | with_reducible rfl | (first | rfl | simp) | rfl)) (by omega) ?_
  intro i a w hok0 h
  have hlt0 := len_filter_take (p := (fun e => !decide (e = x1))) (xs := x0.2.2) i
  refine wp_seq ?_
  refine wp_seq ?_
  refine at_reg (T := S_spec_LeaveGroup_tab) [] { ts := [1, 2, 4, 5, 6, 7, 18], os := [1, 2, 3, 4] } ⟨[(1, aI x1), (2, aP 1 0), (4, aP 2 0), (5, aB false), (6, aP 3 0), (7, aI ((i : Nat) : Int)), (18, aB (decide (((i : Nat) : Int) < ((List.length x0.2.2 : Nat) : Int))))], [(1, oX 72 [cI x0.1, cI x0.2.1, .ro (.int 3) x0.2.2]), (2, oX 72 [cI 0, cI 0, cN]), (3, oX 72 [cI x0.1, cI (IntKind.i64.wrap (x0.2.1 + 1)), .sl 4]), (4, oR (.int 3) (List.filter (fun e => !decide (e = x1)) (List.take i x0.2.2)))]⟩ [] gamOK hT h (by kernel_rfl) trivial ?_
  intro a w h
  refine then_normal ?_
  refine at_test (decide (((i : Nat) : Int) < ((List.length x0.2.2 : Nat) : Int))) h (by kernel_rfl) (fun h1 => ?_) (fun h1 => ?_)
  · replace h1 : ((i : Nat) : Int) < ((List.length x0.2.2 : Nat) : Int) := of_decide_eq_true h1
    refine wp_skip ?_
    refine then_normal ?_
    refine wp_seq ?_
    refine wp_block ?_
    refine wp_seq ?_
    refine at_regq (T := S_spec_LeaveGroup_tab) [] { ts := [1, 2, 4, 5, 6, 7, 27], os := [1, 2, 3, 4] } [(0 : Int) ≤ ((i : Nat) : Int) ∧ ((i : Nat) : Int) < ((List.length x0.2.2 : Nat) : Int)] gamOK hT h (by kernel_rfl) ⟨(by refine ⟨?_, ?_⟩ <;> (first | omega | (simp only [List.length_append, List.length_cons, List.length_nil, List.length_set, List.length_take, List.length_drop, List.length_replicate, List.length_map, Nat.min_def]; omega) | (simp; done) | (simp; omega) | done)), trivial⟩ ?_
    intro a w h
    refine then_normal ?_
    refine at_test (!decide ((x0.2.2.getD i 0) = x1)) h (by kernel_rfl) (fun h2 => ?_) (fun h2 => ?_)
    · replace h2 : ¬ ((x0.2.2.getD i 0) = x1) := by simpa using h2
      refine at_anyq (T := S_spec_LeaveGroup_tab) [{}, {}, {}, {}, {}, {}, {}, { ids := [5] }, { ids := [6] }, {}, {}] { ts := [1, 2, 4, 5, 6, 7], os := [1, 2, 3, 6] } [(0 : Int) ≤ ((i : Nat) : Int) ∧ ((i : Nat) : Int) < ((List.length x0.2.2 : Nat) : Int), (List.length (List.filter (fun e => !decide (e = x1)) (List.take i x0.2.2)) + List.length ([(x0.2.2.getD i 0)])) * 8 ≤ 140737488355328] gamOK hT mixed h (by kernel_rfl) ⟨(by refine ⟨?_, ?_⟩ <;> (first | omega | (simp only [List.length_append, List.length_cons, List.length_nil, List.length_set, List.length_take, List.length_drop, List.length_replicate, List.length_map, Nat.min_def]; omega) | (simp; done) | (simp; omega) | done)), (by first | omega | (simp only [List.length_append, List.length_cons, List.length_nil, List.length_set, List.length_take, List.length_drop, List.length_replicate, List.length_map, Nat.min_def]; omega) | (simp; done) | (simp; omega) | done), trivial⟩ ?_
      intro a w h
      refine in_normal ?_
      refine then_normal ?_
      refine at_regq (T := S_spec_LeaveGroup_tab) [{}, { nw := true }] { ts := [1, 2, 4, 5, 6, 7], os := [1, 2, 3, 6] } [I64 (((i : Nat) : Int) + 1)] gamOK hT h (by kernel_rfl) ⟨⟨by first | omega | (simp only [List.length_append, List.length_cons, List.length_nil, List.length_set, List.length_take, List.length_drop, List.length_replicate, List.length_map, Nat.min_def]; omega) | (simp; done) | (simp; omega) | done, by first | omega | (simp only [List.length_append, List.length_cons, List.length_nil, List.length_set, List.length_take, List.length_drop, List.length_replicate, List.length_map, Nat.min_def]; omega) | (simp; done) | (simp; omega) | done⟩, trivial⟩ ?_
      intro a w h
      replace h := at_out (σ' := ⟨[(1, aI x1), (2, aP 1 0), (4, aP 2 0), (5, aB false), (6, aP 3 0), (7, aI (((i : Nat) : Int) + 1))], [(1, oX 72 [cI x0.1, cI x0.2.1, .ro (.int 3) x0.2.2]), (2, oX 72 [cI 0, cI 0, cN]), (3, oX 72 [cI x0.1, cI (IntKind.i64.wrap (x0.2.1 + 1)), .sl 4]), (4, oR (.int 3) ((List.filter (fun e => !decide (e = x1)) (List.take i x0.2.2)) ++ ([(x0.2.2.getD i 0)])))]⟩) { ts := [1, 2, 4, 5, 6, 7], os := [1, 2, 3, 6], rn := [(6, 4)] } h (by kernel_rfl)
      exact ⟨i + 1, at_eq h (st_congr2 (fun (d0 : List Int) (d1 : Int) => (⟨[(1, aI x1), (2, aP 1 0), (4, aP 2 0), (5, aB false), (6, aP 3 0), (7, aI d1)], [(1, oX 72 [cI x0.1, cI x0.2.1, .ro (.int 3) x0.2.2]), (2, oX 72 [cI 0, cI 0, cN]), (3, oX 72 [cI x0.1, cI (IntKind.i64.wrap (x0.2.1 + 1)), .sl 4]), (4, oR (.int 3) d0)]⟩ : St)) (show (((List.filter (fun e => !decide (e = x1)) (List.take i x0.2.2)) ++ ([(x0.2.2.getD i 0)])) : List Int) = (List.filter (fun e => !decide (e = x1)) (List.take (i + 1) x0.2.2)) from by first | with_reducible rfl | (first | (rw [filter_snoc_t (z := 0) (by omega) (by first | assumption | (simp_all; done))]; done) | (rw [filter_snoc_f (z := 0) (by omega) (by first | assumption | (simp_all; done))]; done)) | rfl) (show (((i : Nat) : Int) + 1 : Int) = (((i + 1) : Nat) : Int) from by first | with_reducible rfl | (omega) | rfl)), (by omega), (by omega)⟩
    · replace h2 : (x0.2.2.getD i 0) = x1 := by simpa using h2
      refine wp_skip ?_
      refine in_normal ?_
      refine then_normal ?_
      refine at_regq (T := S_spec_LeaveGroup_tab) [{}, { nw := true }] { ts := [1, 2, 4, 5, 6, 7], os := [1, 2, 3, 4] } [I64 (((i : Nat) : Int) + 1)] gamOK hT h (by kernel_rfl) ⟨⟨by first | omega | (simp only [List.length_append, List.length_cons, List.length_nil, List.length_set, List.length_take, List.length_drop, List.length_replicate, List.length_map, Nat.min_def]; omega) | (simp; done) | (simp; omega) | done, by first | omega | (simp only [List.length_append, List.length_cons, List.length_nil, List.length_set, List.length_take, List.length_drop, List.length_replicate, List.length_map, Nat.min_def]; omega) | (simp; done) | (simp; omega) | done⟩, trivial⟩ ?_
      intro a w h
      replace h := at_out (σ' := ⟨[(1, aI x1), (2, aP 1 0), (4, aP 2 0), (5, aB false), (6, aP 3 0), (7, aI (((i : Nat) : Int) + 1))], [(1, oX 72 [cI x0.1, cI x0.2.1, .ro (.int 3) x0.2.2]), (2, oX 72 [cI 0, cI 0, cN]), (3, oX 72 [cI x0.1, cI (IntKind.i64.wrap (x0.2.1 + 1)), .sl 4]), (4, oR (.int 3) (List.filter (fun e => !decide (e = x1)) (List.take i x0.2.2)))]⟩) { ts := [1, 2, 4, 5, 6, 7], os := [1, 2, 3, 4] } h (by kernel_rfl)
      exact ⟨i + 1, at_eq h (st_congr2 (fun (d0 : List Int) (d1 : Int) => (⟨[(1, aI x1), (2, aP 1 0), (4, aP 2 0), (5, aB false), (6, aP 3 0), (7, aI d1)], [(1, oX 72 [cI x0.1, cI x0.2.1, .ro (.int 3) x0.2.2]), (2, oX 72 [cI 0, cI 0, cN]), (3, oX 72 [cI x0.1, cI (IntKind.i64.wrap (x0.2.1 + 1)), .sl 4]), (4, oR (.int 3) d0)]⟩ : St)) (show ((List.filter (fun e => !decide (e = x1)) (List.take i x0.2.2)) : List Int) = (List.filter (fun e => !decide (e = x1)) (List.take (i + 1) x0.2.2)) from by first | with_reducible rfl | (first | (rw [filter_snoc_t (z := 0) (by omega) (by first | assumption | (simp_all; done))]; done) | (rw [filter_snoc_f (z := 0) (by omega) (by first | assumption | (simp_all; done))]; done)) | rfl) (show (((i : Nat) : Int) + 1 : Int) = (((i + 1) : Nat) : Int) from by first | with_reducible rfl | (omega) | rfl)), (by omega), (by omega)⟩
  · replace h1 : ¬ (((i : Nat) : Int) < ((List.length x0.2.2 : Nat) : Int)) := of_decide_eq_false h1
    refine wp_exit ?_
    refine then_exit ?_
    replace h := at_out (σ' := ⟨[(2, aP 1 0), (4, aP 2 0), (5, aB false), (6, aP 3 0)], [(1, oX 72 [cI x0.1, cI x0.2.1, .ro (.int 3) x0.2.2]), (2, oX 72 [cI 0, cI 0, cN]), (3, oX 72 [cI x0.1, cI (IntKind.i64.wrap (x0.2.1 + 1)), .sl 4]), (4, oR (.int 3) (List.filter (fun e => !decide (e = x1)) (List.take i x0.2.2)))]⟩) { ts := [2, 4, 5, 6], os := [1, 2, 3, 4] } h (by kernel_rfl)
    replace h := at_eq (σ' := ⟨[(2, aP 1 0), (4, aP 2 0), (5, aB false), (6, aP 3 0)], [(1, oX 72 [cI x0.1, cI x0.2.1, .ro (.int 3) x0.2.2]), (2, oX 72 [cI 0, cI 0, cN]), (3, oX 72 [cI x0.1, cI (IntKind.i64.wrap (x0.2.1 + 1)), .sl 4]), (4, oR (.int 3) (List.filter (fun e => !decide (e = x1)) x0.2.2))]⟩) h (st_congr1 (fun (d0 : List Int) => (⟨[(2, aP 1 0), (4, aP 2 0), (5, aB false), (6, aP 3 0)], [(1, oX 72 [cI x0.1, cI x0.2.1, .ro (.int 3) x0.2.2]), (2, oX 72 [cI 0, cI 0, cN]), (3, oX 72 [cI x0.1, cI (IntKind.i64.wrap (x0.2.1 + 1)), .sl 4]), (4, oR (.int 3) d0)]⟩ : St)) (show ((List.filter (fun e => !decide (e = x1)) (List.take i x0.2.2)) : List Int) = (List.filter (fun e => !decide (e = x1)) x0.2.2) from by first | with_reducible rfl | (rw [take_all (by omega)]) | rfl))
    refine then_exit ?_
    refine in_hit ?_
    refine then_normal ?_
    refine wp_seq ?_
    refine wp_seq ?_
    rcases Bool.eq_false_or_eq_true (!(validGroup x0)) with h3 | h3
    · skip
      refine at_regq (T := S_spec_LeaveGroup_tab) [{}, {}, { hint := some (aB true) }] { ts := [2, 4, 5, 6, 54], os := [1, 2, 3, 4] } [(fun (x0 : T72) => Sh.fit s72 x0) x0, (AV.p (.c (.v (.bool (!(validGroup x0))))) = AV.p (.c (.v (.bool true))))] gamOK hT h (by kernel_rfl) ⟨(by first | exact hf0 | exact ⟨trivial, trivial, Sh.fit_len rfl (Nat.le_trans (List.length_filter_le _ _) (by omega))⟩), hint_bool (h3), trivial⟩ ?_
      intro a w h
      refine then_normal ?_
      refine at_test true h (by kernel_rfl) (fun hh => ?_) (fun hh => nomatch hh)
      refine wp_seq ?_
      refine at_regq (T := S_spec_LeaveGroup_tab) [{}, { ids := [7] }] { ts := [4, 5, 6], os := [2, 3, 4, 7] } [(fun (x0 : T72) => Sh.fit s72 x0) x0] gamOK hT h (by kernel_rfl) ⟨(by exact hf0), trivial⟩ ?_
      intro a w h
      refine then_normal ?_
      refine wp_ret ?_
      refine then_ret ?_
      exact at_return (S := S_spec_LeaveGroup) (x := (x0, x1, ())) (x0, (false, ())) [] h (by kernel_rfl) trivial (congrArg (fun z => (z.1, z.2, ())) (show ((x0, false)) = D_spec_LeaveGroup x0 x1 from by first | rfl | (unfold D_spec_LeaveGroup; rw [if_neg (neT (notT h3))])))
    · skip
      have hvh3 := validGroup_t (notF h3)
      rcases Bool.eq_false_or_eq_true (!(validGroup (x0.1, (IntKind.i64.wrap (x0.2.1 + 1), (List.filter (fun e => !decide (e = x1)) x0.2.2))))) with h4 | h4
      · skip
        refine at_regq (T := S_spec_LeaveGroup_tab) [{}, {}, { hint := some (aB false) }, {}, {}, {}, { hint := some (aB true) }] { ts := [2, 4, 5, 6, 54], os := [1, 2, 3, 4] } [(fun (x0 : T72) => Sh.fit s72 x0) x0, (AV.p (.c (.v (.bool (!(validGroup x0))))) = AV.p (.c (.v (.bool false)))), (fun (x0 : T72) => Sh.fit s72 x0) (x0.1, (IntKind.i64.wrap (x0.2.1 + 1), (List.filter (fun e => !decide (e = x1)) x0.2.2))), (AV.p (.c (.v (.bool (!(validGroup (x0.1, (IntKind.i64.wrap (x0.2.1 + 1), (List.filter (fun e => !decide (e = x1)) x0.2.2)))))))) = AV.p (.c (.v (.bool true))))] gamOK hT h (by kernel_rfl) ⟨(by first | exact hf0 | exact ⟨trivial, trivial, Sh.fit_len rfl (Nat.le_trans (List.length_filter_le _ _) (by omega))⟩), hint_bool (h3), (by first | exact hf0 | exact ⟨trivial, trivial, Sh.fit_len rfl (Nat.le_trans (List.length_filter_le _ _) (by omega))⟩), hint_bool (h4), trivial⟩ ?_
        intro a w h
        refine then_normal ?_
        refine at_test true h (by kernel_rfl) (fun hh => ?_) (fun hh => nomatch hh)
        refine wp_seq ?_
        refine at_regq (T := S_spec_LeaveGroup_tab) [{}, { ids := [7] }] { ts := [4, 5, 6], os := [2, 3, 4, 7] } [(fun (x0 : T72) => Sh.fit s72 x0) x0] gamOK hT h (by kernel_rfl) ⟨(by exact hf0), trivial⟩ ?_
        intro a w h
        refine then_normal ?_
        refine wp_ret ?_
        refine then_ret ?_
        exact at_return (S := S_spec_LeaveGroup) (x := (x0, x1, ())) (x0, (false, ())) [] h (by kernel_rfl) trivial (congrArg (fun z => (z.1, z.2, ())) (show ((x0, false)) = D_spec_LeaveGroup x0 x1 from by first | rfl | (unfold D_spec_LeaveGroup; rw [if_pos (notF h3), if_neg (neT (notT h4))])))
      · skip
        have hvh4 := validGroup_t (notF h4)
        refine at_regq (T := S_spec_LeaveGroup_tab) [{}, {}, { hint := some (aB false) }, {}, {}, {}, { hint := some (aB false) }] { ts := [2, 4, 5, 6, 54], os := [1, 2, 3, 4] } [(fun (x0 : T72) => Sh.fit s72 x0) x0, (AV.p (.c (.v (.bool (!(validGroup x0))))) = AV.p (.c (.v (.bool false)))), (fun (x0 : T72) => Sh.fit s72 x0) (x0.1, (IntKind.i64.wrap (x0.2.1 + 1), (List.filter (fun e => !decide (e = x1)) x0.2.2))), (AV.p (.c (.v (.bool (!(validGroup (x0.1, (IntKind.i64.wrap (x0.2.1 + 1), (List.filter (fun e => !decide (e = x1)) x0.2.2)))))))) = AV.p (.c (.v (.bool false))))] gamOK hT h (by kernel_rfl) ⟨(by first | exact hf0 | exact ⟨trivial, trivial, Sh.fit_len rfl (Nat.le_trans (List.length_filter_le _ _) (by omega))⟩), hint_bool (h3), (by first | exact hf0 | exact ⟨trivial, trivial, Sh.fit_len rfl (Nat.le_trans (List.length_filter_le _ _) (by omega))⟩), hint_bool (h4), trivial⟩ ?_
        intro a w h
        refine then_normal ?_
        refine at_test (decide (((List.length (List.filter (fun e => !decide (e = x1)) x0.2.2) : Nat) : Int) = ((List.length x0.2.2 : Nat) : Int))) h (by kernel_rfl) (fun h5 => ?_) (fun h5 => ?_)
        · replace h5 : ((List.length (List.filter (fun e => !decide (e = x1)) x0.2.2) : Nat) : Int) = ((List.length x0.2.2 : Nat) : Int) := of_decide_eq_true h5
          refine wp_seq ?_
          refine at_regq (T := S_spec_LeaveGroup_tab) [{}, { ids := [7] }] { ts := [4, 5, 6], os := [2, 3, 4, 7] } [(fun (x0 : T72) => Sh.fit s72 x0) x0] gamOK hT h (by kernel_rfl) ⟨(by exact hf0), trivial⟩ ?_
          intro a w h
          refine then_normal ?_
          refine wp_ret ?_
          refine then_ret ?_
          exact at_return (S := S_spec_LeaveGroup) (x := (x0, x1, ())) (x0, (false, ())) [] h (by kernel_rfl) trivial (congrArg (fun z => (z.1, z.2, ())) (show ((x0, false)) = D_spec_LeaveGroup x0 x1 from by first | rfl | (unfold D_spec_LeaveGroup; rw [if_pos (notF h3), if_pos (notF h4), if_pos h5])))
        · replace h5 : ¬ (((List.length (List.filter (fun e => !decide (e = x1)) x0.2.2) : Nat) : Int) = ((List.length x0.2.2 : Nat) : Int)) := of_decide_eq_false h5
          refine wp_skip ?_
          refine then_normal ?_
          refine wp_seq ?_
          refine at_regq (T := S_spec_LeaveGroup_tab) [] { ts := [4, 5], os := [2, 4] } [] gamOK hT h (by kernel_rfl) trivial ?_
          intro a w h
          refine then_normal ?_
          refine wp_ret ?_
          exact at_return (S := S_spec_LeaveGroup) (x := (x0, x1, ())) ((x0.1, (IntKind.i64.wrap (x0.2.1 + 1), (List.filter (fun e => !decide (e = x1)) x0.2.2))), (true, ())) [] h (by kernel_rfl) trivial (congrArg (fun z => (z.1, z.2, ())) (show (((x0.1, (IntKind.i64.wrap (x0.2.1 + 1), (List.filter (fun e => !decide (e = x1)) x0.2.2))), true)) = D_spec_LeaveGroup x0 x1 from by first | rfl | (unfold D_spec_LeaveGroup; rw [if_pos (notF h3), if_pos (notF h4), if_neg h5])))

theorem wrap_ep {n : Int} (h : 0 ≤ n ∧ n ≤ 100000) : IntKind.i64.wrap (n + 1) = n + 1 := wrap_id ⟨by omega, by omega⟩
theorem bs_known {xs : List Int} {v : Int} (h : allN (grpP xs) xs.length = true) : (D_slices_BinarySearch_S_int_int_ xs v) = (((twL (fun e => decide (e < v)) xs : Nat) : Int), decide (v ∈ xs)) := by
  have hs := grp_sorted h
  have hm : ∀ a b, a ≤ b → b < xs.length → ltAt xs v b = true → ltAt xs v a = true := fun a b hab hb hp => by
    unfold ltAt at hp ⊢
    rw [decide_eq_true_iff] at hp ⊢
    by_cases e : a = b
    · rw [e]; exact hp
    · have := hs a b (by omega) hb; omega
  obtain ⟨h1, h2⟩ := bsF_first hm xs.length 0 xs.length (by omega) (by omega) (Nat.le_refl _) (fun a ha => by omega) (fun a ha hn => by omega)
  unfold D_slices_BinarySearch_S_int_int_
  rw [bs_tw h] at *
  refine Prod.ext rfl ?_
  show decide _ = decide _
  rw [decide_eq_decide]
  constructor
  · rintro ⟨hl, he⟩
    have h3 := getD_mem (z := (0 : Int)) hl
    rw [he] at h3; exact h3
  · intro hv
    obtain ⟨j, hj, rfl⟩ := List.getElem_of_mem hv
    have hg : xs.getD j 0 = xs[j] := getD_of_lt hj
    generalize twL (fun e => decide (e < xs[j])) xs = t at *
    have : t = j := by
      rcases Nat.lt_trichotomy t j with hlt | rfl | hgt
      · have h3 := hs t j hlt hj
        have h4 := h2 t (Nat.le_refl _) (by omega)
        unfold ltAt at h4
        rw [decide_eq_false_iff_not] at h4
        omega
      · rfl
      · have h4 := h1 j hgt
        unfold ltAt at h4
        rw [decide_eq_true_iff] at h4
        omega
    subst this
    exact ⟨hj, hg⟩
theorem joinGroup_eq (g : T72) (m : Int) : D_impl_JoinGroup g m = D_spec_JoinGroup g m := by
  unfold D_impl_JoinGroup D_spec_JoinGroup
  by_cases hg : validGroup g = true
  · rw [if_pos hg, if_pos hg]
    have hv := validGroup_t hg
    rw [wrap_ep hv.2.1, bs_known hv.2.2.2]
    dsimp only
    have hl : ([] : List Int) ++ List.drop 0 (List.take (twL (fun e => decide (e < m)) g.2.2) g.2.2) ++ [m] ++ List.drop (twL (fun e => decide (e < m)) g.2.2) (List.take (List.length g.2.2) g.2.2) = insAt g.2.2 (twL (fun e => decide (e < m)) g.2.2) [m] := by simp [insAt]
    rw [hl]
    unfold D_slices_Insert_S_int_int_ grpChanged
    rw [Int.toNat_natCast]
    by_cases hm : m ∈ g.2.2
    · rw [if_pos (decide_eq_true hm), if_neg]
      intro hv2
      have hv2 := (validGroup_t hv2).2.2.2
      have hs2 := grp_sorted hv2
      have hs := grp_sorted hv.2.2.2
      have hb := bs_known (v := m) hv.2.2.2
      unfold D_slices_BinarySearch_S_int_int_ at hb
      rw [bs_tw hv.2.2.2] at hb
      have hb2 := congrArg (fun z : Int × Bool => z.2) hb
      dsimp only at hb2
      rw [decide_eq_decide] at hb2
      obtain ⟨k1, k2⟩ := hb2.2 hm
      generalize twL (fun e => decide (e < m)) g.2.2 = t at *
      have e1 : (insAt g.2.2 t [m]).length = g.2.2.length + 1 := by simp [insAt]; omega
      have := hs2 t (t + 1) (by omega) (by show _ < (insAt g.2.2 t [m]).length; omega)
      have e2 : (insAt g.2.2 t [m]).getD t 0 = m := by
        unfold insAt
        rw [List.getD_eq_getElem?_getD, List.append_assoc, List.getElem?_append_right (by simp; omega)]
        simp [Nat.min_eq_left (Nat.le_of_lt k1)]
      have e3 : (insAt g.2.2 t [m]).getD (t + 1) 0 = m := by
        unfold insAt
        rw [List.getD_eq_getElem?_getD, List.getElem?_append_right (by simp; omega)]
        simp [Nat.min_eq_left (Nat.le_of_lt k1)]
        simpa [List.getD_eq_getElem?_getD] using k2
      have this : (insAt g.2.2 t [m]).getD t 0 < (insAt g.2.2 t [m]).getD (t + 1) 0 := this
      rw [e2, e3] at this
      omega
    · rw [if_neg (by rw [decide_eq_false hm]; decide)]
      try (split <;> rfl)
  · rw [if_neg hg, if_neg hg]
theorem grpChanged_len (g : T72) (l : List Int) : List.length (grpChanged g l).1.2.2 ≤ List.length g.2.2 + List.length l := by
  unfold grpChanged; split
  · show List.length l ≤ _; omega
  · show List.length g.2.2 ≤ _; omega
theorem joinGroup_len (g : T72) (m : Int) : List.length (D_impl_JoinGroup g m).1.2.2 ≤ 2 * List.length g.2.2 + 1 := by
  unfold D_impl_JoinGroup
  split
  · split
    · show List.length g.2.2 ≤ _; omega
    · have h1 := grpChanged_len g (D_slices_Insert_S_int_int_ g.2.2 (D_slices_BinarySearch_S_int_int_ g.2.2 m).1 ([m]))
      have h2 : List.length (D_slices_Insert_S_int_int_ g.2.2 (D_slices_BinarySearch_S_int_int_ g.2.2 m).1 ([m])) ≤ List.length g.2.2 + 1 := by unfold D_slices_Insert_S_int_int_ insAt; simp; omega
      dsimp only; omega
  · show List.length g.2.2 ≤ _; omega
theorem leaveGroup_len (g : T72) (m : Int) : List.length (D_impl_LeaveGroup g m).1.2.2 ≤ 3 * List.length g.2.2 + 1 := by
  unfold D_impl_LeaveGroup
  split
  · split
    · have h1 := grpChanged_len g (D_slices_Delete_S_int_int_ g.2.2 (D_slices_BinarySearch_S_int_int_ g.2.2 m).1 ((D_slices_BinarySearch_S_int_int_ g.2.2 m).1 + 1))
      have h2 : List.length (D_slices_Delete_S_int_int_ g.2.2 (D_slices_BinarySearch_S_int_int_ g.2.2 m).1 ((D_slices_BinarySearch_S_int_int_ g.2.2 m).1 + 1)) ≤ 2 * List.length g.2.2 := by unfold D_slices_Delete_S_int_int_ delAt; simp; omega
      dsimp only; omega
    · show List.length g.2.2 ≤ _; omega
  · show List.length g.2.2 ≤ _; omega
theorem filter_del {xs : List Int} {v : Int} {t : Nat} (hs : ∀ a b, a < b → b < xs.length → xs.getD a 0 < xs.getD b 0) (ht : t < xs.length) (hv : xs.getD t 0 = v) : xs.filter (fun e => !decide (e = v)) = delAt xs t (t + 1) := by
  unfold delAt
  conv => lhs; rw [← List.take_append_drop t xs, ← List.getElem_cons_drop ht]
  rw [List.filter_append, List.filter_cons_of_neg (by rw [← hv, getD_of_lt ht]; simp)]
  congr 1
  · rw [List.filter_eq_self]
    intro x hx
    obtain ⟨j, hj, rfl⟩ := List.getElem_of_mem hx
    rw [List.length_take] at hj
    have := hs j t (by omega) ht
    rw [hv, getD_of_lt (by omega)] at this
    rw [List.getElem_take]
    simp
    omega
  · rw [List.filter_eq_self]
    intro x hx
    obtain ⟨j, hj, rfl⟩ := List.getElem_of_mem hx
    rw [List.length_drop] at hj
    have := hs t (t + 1 + j) (by omega) (by omega)
    rw [hv, getD_of_lt (by omega)] at this
    rw [List.getElem_drop]
    simp
    omega
theorem leaveGroup_eq (g : T72) (m : Int) : D_impl_LeaveGroup g m = D_spec_LeaveGroup g m := by
  unfold D_impl_LeaveGroup D_spec_LeaveGroup
  by_cases hg : validGroup g = true
  · rw [if_pos hg, if_pos hg]
    have hv := validGroup_t hg
    have hs := grp_sorted hv.2.2.2
    rw [wrap_ep hv.2.1, bs_known hv.2.2.2]
    dsimp only
    by_cases hm : m ∈ g.2.2
    · have hb := bs_known (v := m) hv.2.2.2
      unfold D_slices_BinarySearch_S_int_int_ at hb
      rw [bs_tw hv.2.2.2] at hb
      have hb2 := congrArg (fun z : Int × Bool => z.2) hb
      dsimp only at hb2
      rw [decide_eq_decide] at hb2
      obtain ⟨k1, k2⟩ := hb2.2 hm
      rw [if_pos (decide_eq_true hm)]
      generalize twL (fun e => decide (e < m)) g.2.2 = t at *
      unfold D_slices_Delete_S_int_int_ grpChanged
      rw [Int.toNat_natCast, show (((t : Nat) : Int) + 1).toNat = t + 1 by omega, filter_del hs k1 k2]
      have hl : ¬ (((List.length (delAt g.2.2 t (t + 1)) : Nat) : Int) = ((List.length g.2.2 : Nat) : Int)) := by
        unfold delAt; simp; omega
      rw [if_neg hl]
      try (split <;> rfl)
    · rw [if_neg (by rw [decide_eq_false hm]; decide)]
      have hf : g.2.2.filter (fun e => !decide (e = m)) = g.2.2 := by
        rw [List.filter_eq_self]; intro x hx; simp; intro e; exact hm (e ▸ hx)
      rw [hf, if_pos rfl]
      try (split <;> rfl)
  · rw [if_neg hg, if_neg hg]


end Go.Proofs.Ytfbogeakgmickaa

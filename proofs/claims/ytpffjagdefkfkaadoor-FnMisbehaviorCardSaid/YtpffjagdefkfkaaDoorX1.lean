/- The walks of the functions that the law reaches: each summary holds. No condition. -/
import Derived.Test.YtpffjagdefkfkaaDoorPU
import Derived.Test.YtpffjagdefkfkaaDoorLA
import Derived.Test.YtpffjagdefkfkaaDoorProg
import Derived.Test.YtpffjagdefkfkaaDoorCards
import Derived.Test.YtpffjagdefkfkaaDoorTie
import Derived.WalkKit
import Derived.ProofKit
import Derived.OpenShut
import Derived.Deep.DeepHandedRow
import Derived.Lib.LaidTab
import Derived.Stop.LaidErr
namespace Go.Proofs.YtpffjagdefkfkaaDoor
open Go.RowKit
set_option linter.unusedVariables false
set_option linter.unusedSimpArgs false
abbrev s27 : Sh := .sl 27 (.int 3)
abbrev s29 : Sh := .st 29 (.pair (.int 3) (.pair s27 s27))
abbrev T29 : Type := (Int × ((List Int) × (List Int)))
abbrev s49 : Sh := .sl 49 s29
abbrev s51 : Sh := .st 51 (.pair (.int 3) (.pair (.int 3) (.pair (.int 3) (.pair s49 (.int 3)))))
abbrev T51 : Type := (Int × (Int × (Int × ((List T29) × Int))))
abbrev s24 : Sh := .sl 24 s51
abbrev s26 : Sh := .st 26 (.pair (.int 3) s24)
abbrev T26 : Type := (Int × (List T51))
abbrev s44 : Sh := .sl 44 s27
abbrev s46 : Sh := .st 46 (.pair (.int 3) s44)
abbrev T46 : Type := (Int × (List (List Int)))
abbrev s22 : Sh := .sl 22 (.u8 5)
abbrev s60 : Sh := .st 60 (.pair s22 (.pair (.int 3) (.int 3)))
abbrev T60 : Type := ((List Int) × (Int × Int))
def gam : Gam := [(27, (.int 3), 8), (49, s29, 56), (44, s27, 24), (24, s51, 56)]
theorem gamOK : GamOK Tryd.prog gam := (.cons (Elem.of (.int .i64 0) Tryd.underlying27 (by kernel_rfl) rfl (by decide) (by decide)) (.cons (Elem.of (.agg #[(.int .i64 0), (.slice none 0 0), (.slice none 0 0)]) Tryd.underlying49 (by kernel_rfl) rfl (by decide) (by decide)) (.cons (Elem.of (.slice none 0 0) Tryd.underlying44 (by kernel_rfl) rfl (by decide) (by decide)) (.cons (Elem.of (.agg #[(.int .i64 0), (.int .i64 0), (.int .i64 0), (.slice none 0 0), (.int .i64 0)]) Tryd.underlying24 (by kernel_rfl) rfl (by decide) (by decide)) .nil))))
theorem mixed : Tryd.prog.follows .mixedOrders = true := by kernel_rfl
theorem lsA {α : Type} : (∀ xs ys : List α, (xs ++ ys).length = xs.length + ys.length) ∧ (∀ (x : α) (xs : List α), (x :: xs).length = xs.length + 1) ∧ (([] : List α).length = 0) ∧ (∀ (xs : List α) (i : Nat) (a : α), (xs.set i a).length = xs.length) ∧ (∀ (xs : List α) (n : Nat), (xs.take n).length = min n xs.length) ∧ (∀ (xs : List α) (n : Nat), (xs.drop n).length = xs.length - n) ∧ (∀ (n : Nat) (a : α), (List.replicate n a).length = n) := ⟨fun _ _ => List.length_append, fun _ _ => rfl, rfl, fun _ _ _ => List.length_set, fun _ _ => List.length_take, fun _ _ => List.length_drop, fun _ _ => List.length_replicate⟩
def inR (n lo hi : Int) : Bool := decide (lo ≤ n ∧ n ≤ hi)
theorem inR_t {n a b : Int} (h : inR n a b = true) : a ≤ n ∧ n ≤ b := of_decide_eq_true h
theorem inR_f {n a b : Int} (h : inR n a b = false) : n < a ∨ b < n := by have := of_decide_eq_false h; omega
theorem inR_true {n a b : Int} (h : a ≤ n ∧ n ≤ b) : inR n a b = true := decide_eq_true h
def lenOK {α : Type} (xs : List α) : Prop := xs.length ≤ 1073741824
def idL {α : Type} (xs : List α) : List α := xs
def u8L (xs : List Int) : Prop := ∀ e : Int, List.Mem e xs → (0 : Int) ≤ e ∧ e < (256 : Int)
theorem getD_u8 {xs : List Int} (h : u8L xs) (i : Nat) : (0 : Int) ≤ xs.getD i 0 ∧ xs.getD i 0 < (256 : Int) := by
 by_cases l : i < xs.length
 ·rw [List.getD_eq_getElem?_getD, List.getElem?_eq_getElem l]; exact h _ (List.getElem_mem l)
 ·rw [List.getD_eq_getElem?_getD, List.getElem?_eq_none (by omega)]; constructor <;> decide
section
variable {α β : Type}
def noneTo (p : α → Bool) (xs : List α) (z : α) (i : Nat) : Prop := ∀ j, j < i → p (xs.getD j z) = false
def idxF (p : α → Bool) : List α → Int
 | [] => -1
 | x :: l => if p x = true then 0 else if idxF p l < 0 then -1 else idxF p l + 1
theorem noneTo_zero {p : α → Bool} {xs : List α} {z : α} : noneTo p xs z 0 := fun j h => by omega
theorem noneTo_succ {p : α → Bool} {xs : List α} {z : α} {i : Nat} (h : noneTo p xs z i) (k : p (xs.getD i z) = false) : noneTo p xs z (i + 1) := fun j hj => by
 by_cases e : j = i
 ·subst e; exact k
 ·exact h j (by omega)
theorem idxF_at {p : α → Bool} {z : α} : ∀ {xs : List α} {i : Nat}, i < xs.length → noneTo p xs z i → p (xs.getD i z) = true → idxF p xs = i
 | [], _, h, _, _ => by simp at h
 | x :: l, 0, _, _, k => by
  have k : p x = true := k
  simp [idxF, k]
 | x :: l, i + 1, h, hn, k => by
  have h0 : p x = false := hn 0 (by omega)
  have := idxF_at (xs := l) (i := i) (by simpa using h) (fun j hj => by have := hn (j + 1) (by omega); simpa using this) (by simpa using k)
  simp only [idxF, h0, this]
  rw [if_neg (by decide), if_neg (by omega)]
  omega
theorem idxF_none {p : α → Bool} {z : α} : ∀ {xs : List α} {i : Nat}, xs.length ≤ i → noneTo p xs z i → idxF p xs = -1
 | [], _, _, _ => rfl
 | x :: l, 0, h, _ => by simp at h
 | x :: l, i + 1, h, hn => by
  have h0 : p x = false := hn 0 (by omega)
  have := idxF_none (xs := l) (i := i) (by simpa using h) (fun j hj => by have := hn (j + 1) (by omega); simpa using this)
  simp [idxF, h0, this]
theorem idxF_pos {p : α → Bool} : ∀ {xs : List α}, 0 ≤ idxF p xs ↔ xs.any p = true
 | [] => by simp [idxF]
 | x :: l => by
  have := idxF_pos (xs := l) (p := p)
  simp only [idxF, List.any_cons, Bool.or_eq_true, ← this]
  by_cases hx : p x = true
  ·simp [hx]
  ·rw [if_neg hx]
   split
   ·rename_i h; constructor
    ·intro h'; omega
    ·rintro (h' | h')
     ·exact absurd h' hx
     ·omega
   ·rename_i h; constructor
    ·intro h'; right; omega
    ·intro _; omega
theorem idxF_any {p : α → Bool} {xs : List α} : decide (idxF p xs ≥ 0) = xs.any p := by
 rw [Bool.eq_iff_iff, decide_eq_true_iff]; exact idxF_pos
def allTo2 (e : α → β → Bool) (xs : List α) (ys : List β) (z : α) (y : β) (i : Nat) : Prop := ∀ j, j < i → e (xs.getD j z) (ys.getD j y) = true
def eqF (e : α → β → Bool) : List α → List β → Bool
 | [], [] => true
 | x :: l, y :: l' => e x y && eqF e l l'
 | _, _ => false
theorem allTo2_zero {e : α → β → Bool} {xs : List α} {ys : List β} {z : α} {y : β} : allTo2 e xs ys z y 0 := fun j h => by omega
theorem allTo2_succ {e : α → β → Bool} {xs : List α} {ys : List β} {z : α} {y : β} {i : Nat} (h : allTo2 e xs ys z y i) (k : e (xs.getD i z) (ys.getD i y) = true) : allTo2 e xs ys z y (i + 1) := fun j hj => by
 by_cases e : j = i
 ·subst e; exact k
 ·exact h j (by omega)
theorem eqF_len {e : α → β → Bool} : ∀ {xs : List α} {ys : List β}, xs.length ≠ ys.length → eqF e xs ys = false
 | [], [], h => absurd rfl h
 | [], _ :: _, _ => rfl
 | _ :: _, [], _ => rfl
 | _ :: l, _ :: l', h => by simp only [eqF]; rw [eqF_len (xs := l) (ys := l') (by simpa using h), Bool.and_false]
theorem eqF_at {e : α → β → Bool} {z : α} {y : β} : ∀ {xs : List α} {ys : List β} {i : Nat}, i < xs.length → i < ys.length → e (xs.getD i z) (ys.getD i y) = false → eqF e xs ys = false
 | x :: l, y' :: l', 0, _, _, h => by
  have h : e x y' = false := h
  simp [eqF, h]
 | x :: l, y' :: l', i + 1, h1, h2, h => by simp only [eqF]; rw [eqF_at (xs := l) (ys := l') (i := i) (by simpa using h1) (by simpa using h2) (by simpa using h), Bool.and_false]
 | [], _, _, h1, _, _ => by simp at h1
 | _ :: _, [], _, _, h2, _ => by simp at h2
theorem eqF_all {e : α → β → Bool} {z : α} {y : β} : ∀ {xs : List α} {ys : List β} {i : Nat}, xs.length = ys.length → xs.length ≤ i → allTo2 e xs ys z y i → eqF e xs ys = true
 | [], [], _, _, _, _ => rfl
 | [], _ :: _, _, h, _, _ => by simp at h
 | _ :: _, [], _, h, _, _ => by simp at h
 | x :: l, y' :: l', 0, _, h, _ => by simp at h
 | x :: l, y' :: l', i + 1, h, hi, ha => by
  have h0 : e x y' = true := ha 0 (by omega)
  simp only [eqF]
  rw [h0, eqF_all (xs := l) (ys := l') (i := i) (by simpa using h) (by simpa using hi) (fun j hj => by have := ha (j + 1) (by omega); simpa using this)]
  rfl
def allTo1 (p : α → Bool) (xs : List α) (z : α) (i : Nat) : Prop := ∀ j, j < i → p (xs.getD j z) = true
theorem allTo1_zero {p : α → Bool} {xs : List α} {z : α} : allTo1 p xs z 0 := fun j h => by omega
theorem allTo1_succ {p : α → Bool} {xs : List α} {z : α} {i : Nat} (h : allTo1 p xs z i) (k : p (xs.getD i z) = true) : allTo1 p xs z (i + 1) := fun j hj => by
 by_cases e : j = i
 ·subst e; exact k
 ·exact h j (by omega)
theorem all_at {p : α → Bool} {xs : List α} {z : α} {i : Nat} (h : i < xs.length) (k : p (xs.getD i z) = false) : xs.all p = false := by
 rw [Bool.eq_false_iff]; intro ha
 have := List.all_eq_true.1 ha _ (getD_mem (z := z) h)
 rw [k] at this; cases this
theorem all_of {p : α → Bool} {xs : List α} {z : α} {i : Nat} (h : xs.length ≤ i) (k : allTo1 p xs z i) : xs.all p = true := by
 rw [List.all_eq_true]; intro x hx
 obtain ⟨j, hj, rfl⟩ := List.getElem_of_mem hx
 have := k j (by omega)
 rwa [getD_of_lt hj] at this
def foldTo (f : β → α → β) (b : β) (xs : List α) (i : Nat) : β := (xs.take i).foldl f b
theorem foldTo_zero {f : β → α → β} {b : β} {xs : List α} : foldTo f b xs 0 = b := rfl
theorem foldTo_succ {f : β → α → β} {b : β} {xs : List α} {i : Nat} (z : α) (h : i < xs.length) : foldTo f b xs (i + 1) = f (foldTo f b xs i) (xs.getD i z) := by
 unfold foldTo; rw [take_snoc (z := z) h, List.foldl_append]; rfl
theorem foldTo_all {f : β → α → β} {b : β} {xs : List α} {i : Nat} (h : xs.length ≤ i) : foldTo f b xs i = xs.foldl f b := by unfold foldTo; rw [take_all h]
end
section
variable {α β : Type}
theorem any_at {p : α → Bool} {xs : List α} {z : α} {i : Nat} (h : i < xs.length) (k : p (xs.getD i z) = true) : xs.any p = true := List.any_eq_true.2 ⟨_, getD_mem h, k⟩
theorem any_of {p : α → Bool} {xs : List α} {z : α} {i : Nat} (h : xs.length ≤ i) (k : noneTo p xs z i) : xs.any p = false := by
 rw [Bool.eq_false_iff]; intro ha
 obtain ⟨x, hx, hp⟩ := List.any_eq_true.1 ha
 obtain ⟨j, hj, rfl⟩ := List.getElem_of_mem hx
 have := k j (by omega)
 rw [getD_of_lt hj, hp] at this; cases this
def allN (P : Nat → Bool) : Nat → Bool
 | 0 => true
 | n + 1 => allN P n && P n
theorem allN_succ {P : Nat → Bool} {i : Nat} (h : allN P i = true) (k : P i = true) : allN P (i + 1) = true := by simp [allN, h, k]
theorem allN_iff {P : Nat → Bool} : ∀ {n : Nat}, allN P n = true ↔ ∀ j, j < n → P j = true
 | 0 => by simp [allN]
 | n + 1 => by
  simp only [allN, Bool.and_eq_true, allN_iff (n := n)]
  constructor
  ·rintro ⟨h1, h2⟩ j hj
   by_cases e : j = n
   ·rw [e]; exact h2
   ·exact h1 j (by omega)
  ·intro h; exact ⟨fun j hj => h j (by omega), h n (by omega)⟩
theorem allN_eq {P : Nat → Bool} {i n : Nat} (h : n ≤ i) (h' : i ≤ n) (k : allN P i = true) : allN P n = true := by rw [show n = i by omega]; exact k
theorem allN_at {P : Nat → Bool} {i n : Nat} (h : i < n) (k : P i = false) : allN P n = false := by
 rw [Bool.eq_false_iff]; intro ha
 rw [allN_iff.1 ha i h] at k; cases k
theorem map_snoc {f : α → β} {xs : List α} {i : Nat} {z : α} (h : i < xs.length) : (xs.take (i + 1)).map f = (xs.take i).map f ++ [f (xs.getD i z)] := by rw [take_snoc (z := z) h, List.map_append]; rfl
theorem filter_snoc_t {p : α → Bool} {xs : List α} {i : Nat} {z : α} (h : i < xs.length) (k : p (xs.getD i z) = true) : (xs.take (i + 1)).filter p = (xs.take i).filter p ++ [xs.getD i z] := by rw [take_snoc (z := z) h, List.filter_append, List.filter_cons_of_pos k]; rfl
theorem filter_snoc_f {p : α → Bool} {xs : List α} {i : Nat} {z : α} (h : i < xs.length) (k : p (xs.getD i z) = false) : (xs.take (i + 1)).filter p = (xs.take i).filter p := by rw [take_snoc (z := z) h, List.filter_append, List.filter_cons_of_neg (by rw [k]; decide)]; simp
theorem len_filter_take {p : α → Bool} {xs : List α} (i : Nat) : ((xs.take i).filter p).length ≤ xs.length := Nat.le_trans (List.length_filter_le _ _) (by simp; omega)
theorem len_take_le {xs : List α} (i : Nat) : (xs.take i).length ≤ xs.length := by simp; omega
end
theorem any_not {α : Type} (p : α → Bool) (xs : List α) : (xs.any fun e => !p e) = !(xs.all p) := by
 induction xs with
 | nil => rfl
 | cons x l ih => rw [List.any_cons, List.all_cons, ih, Bool.not_and]
def S_slices_Clone_S_int_int_ : Sum := { fid := 31, dom := [s27], cod := [s27], dp := true, fz := false, pre := fun x => (lenOK (α := Int)) x.1, g := fun x => (((idL (α := Int)) x.1), ()) }
def S_slices_Clone_S_int_int__tab : List (Nat × Sum) := []
theorem S_slices_Clone_S_int_int__ok : FnOK Tryd.prog 31 S_slices_Clone_S_int_int_ := by
 refine at_enter 8 (fun x => ⟨[(0, aF (.int 3) x.1)], []⟩) Tryd.func31 rfl (by kernel_rfl) (fun x => rfl) ?_
 rintro w0 Z0 ⟨x0, u⟩ a w
 revert x0
 intro (x0 : (List Int)) hpre hlens h
 replace hpre : (lenOK (α := Int)) x0 := hpre
 have hl1 : List.length x0 ≤ 9223372036854775807 := hlens.1.1
 have hT : TabOK Tryd.prog w0 [] S_slices_Clone_S_int_int__tab := .nil
 have hp : List.length x0 ≤ 1073741824 := hpre
 refine wp_seq ?_
 refine at_regq [] { ts := [0, 2], os := [] } [] gamOK hT h (by kernel_rfl) trivial fun a w h => then_normal (wp_seq (wp_seq ?_))
 refine at_regq [] { ts := [0, 2, 4], os := [] } [] gamOK hT h (by kernel_rfl) trivial fun a w h => then_normal ?_
 refine at_nil (List.length x0) h (by kernel_rfl) (fun h1 => ?_) ?_
 ·refine wp_seq ?_
  refine at_regq [] { ts := [0, 2], os := [] } [] gamOK hT h (by kernel_rfl) trivial fun a w h => then_normal (wp_ret (then_ret ?_))
  exact at_return (([] : List Int), ()) [] h (by kernel_rfl) trivial (congrArg (fun z => (z, ())) (show (([] : List Int)) = (idL (α := Int)) x0 from by (show [] = x0; exact (List.eq_nil_of_length_eq_zero h1).symm)))
 ·refine wp_skip (then_normal (wp_seq ?_))
  refine at_regq [{ ids := [1] }, {}, { ids := [2] }] { ts := [2], os := [2] } [(List.length ([] : List Int) + List.length x0) * 8 ≤ 140737488355328] gamOK hT h (by kernel_rfl) ⟨(by first | omega | (simp only [lsA]; omega) | (simp <;> omega)), trivial⟩ fun a w h => then_normal (wp_ret ?_)
  exact at_return ((([] : List Int) ++ x0), ()) [] h (by kernel_rfl) trivial (congrArg (fun z => (z, ())) (show ((([] : List Int) ++ x0)) = (idL (α := Int)) x0 from by (show [] ++ x0 = x0; rfl)))

def S_impl_InRange : Sum := { fid := 25, dom := [(.int 3), (.int 3), (.int 3)], cod := [(.bool 4)], dp := true, fz := false, pre := fun x => True, g := fun x => ((inR x.1 x.2.1 x.2.2.1), ()) }
def S_impl_InRange_tab : List (Nat × Sum) := []
theorem S_impl_InRange_ok : FnOK Tryd.prog 25 S_impl_InRange := by
 refine at_enter 15 (fun x => ⟨[(0, aI x.1), (1, aI x.2.1), (2, aI x.2.2.1)], []⟩) Tryd.func25 rfl (by kernel_rfl) (fun x => rfl) ?_
 rintro w0 Z0 ⟨x0, x1, x2, u⟩ a w
 revert x0 x1 x2
 intro (x0 : Int) (x1 : Int) (x2 : Int) hpre hlens h
 have hT : TabOK Tryd.prog w0 [] S_impl_InRange_tab := .nil
 refine wp_seq ?_
 refine at_regq [] { ts := [0, 1, 2, 6], os := [] } [] gamOK hT h (by kernel_rfl) trivial fun a w h => then_normal (wp_seq ?_)
 by_cases h1 : x1 ≤ x0
 ·refine at_regq [{}, {}, { hint := some (aB true) }] { ts := [6], os := [] } [(AV.p (.c (.v (.bool (decide (x1 ≤ x0))))) = AV.p (.c (.v (.bool true))))] gamOK hT h (by kernel_rfl) ⟨hint_bool (decide_eq_true h1), trivial⟩ fun a w h => then_normal (wp_ret ?_)
  exact at_return (decide (x0 ≤ x2), ()) [] h (by kernel_rfl) trivial (congrArg (fun z => (z, ())) (show (decide (x0 ≤ x2)) = inR x0 x1 x2 from by (unfold inR; simp [*]; done)))
 ·refine at_regq [{}, {}, { hint := some (aB false) }] { ts := [6], os := [] } [(AV.p (.c (.v (.bool (decide (x1 ≤ x0))))) = AV.p (.c (.v (.bool false))))] gamOK hT h (by kernel_rfl) ⟨hint_bool (decide_eq_false h1), trivial⟩ fun a w h => then_normal (wp_ret ?_)
  exact at_return (false, ()) [] h (by kernel_rfl) trivial (congrArg (fun z => (z, ())) (show (false) = inR x0 x1 x2 from by (unfold inR; simp [*]; done)))

def S_spec_l1In : Sum := { fid := 50, dom := [(.int 3), (.int 3), (.int 3)], cod := [(.bool 4)], dp := true, fz := false, pre := fun x => True, g := fun x => ((inR x.1 x.2.1 x.2.2.1), ()) }
def S_spec_l1In_tab : List (Nat × Sum) := []
theorem S_spec_l1In_ok : FnOK Tryd.prog 50 S_spec_l1In := by
 refine at_enter 15 (fun x => ⟨[(0, aI x.1), (1, aI x.2.1), (2, aI x.2.2.1)], []⟩) Tryd.func50 rfl (by kernel_rfl) (fun x => rfl) ?_
 rintro w0 Z0 ⟨x0, x1, x2, u⟩ a w
 revert x0 x1 x2
 intro (x0 : Int) (x1 : Int) (x2 : Int) hpre hlens h
 have hT : TabOK Tryd.prog w0 [] S_spec_l1In_tab := .nil
 refine wp_seq ?_
 refine at_regq [] { ts := [0, 1, 2, 6], os := [] } [] gamOK hT h (by kernel_rfl) trivial fun a w h => then_normal (wp_seq ?_)
 by_cases h1 : x0 ≥ x1
 ·refine at_regq [{}, {}, { hint := some (aB true) }] { ts := [6], os := [] } [(AV.p (.c (.v (.bool (decide (x0 ≥ x1))))) = AV.p (.c (.v (.bool true))))] gamOK hT h (by kernel_rfl) ⟨hint_bool (decide_eq_true h1), trivial⟩ fun a w h => then_normal (wp_ret ?_)
  exact at_return (decide (x0 ≤ x2), ()) [] h (by kernel_rfl) trivial (congrArg (fun z => (z, ())) (show (decide (x0 ≤ x2)) = inR x0 x1 x2 from by (unfold inR; first | (simp only [ge_iff_le] at *; simp [*]; done) | (rw [decide_eq_false]; omega))))
 ·refine at_regq [{}, {}, { hint := some (aB false) }] { ts := [6], os := [] } [(AV.p (.c (.v (.bool (decide (x0 ≥ x1))))) = AV.p (.c (.v (.bool false))))] gamOK hT h (by kernel_rfl) ⟨hint_bool (decide_eq_false h1), trivial⟩ fun a w h => then_normal (wp_ret ?_)
  exact at_return (false, ()) [] h (by kernel_rfl) trivial (congrArg (fun z => (z, ())) (show (false) = inR x0 x1 x2 from by (unfold inR; first | (simp only [ge_iff_le] at *; simp [*]; done) | (rw [decide_eq_false]; omega))))

def modF (x0 : Int) (x1 : Int) : Int := (if (inR x1 1 1000000000000) = true then (Int.tmod ((Int.tmod x0 x1) + x1) x1) else 0)
def S_impl_Mod : Sum := { fid := 32, dom := [(.int 3), (.int 3)], cod := [(.int 3)], dp := true, fz := false, pre := fun x => True, g := fun x => ((modF x.1 x.2.1), ()) }
def S_impl_Mod_tab : List (Nat × Sum) := [(25, S_impl_InRange)]
theorem S_impl_Mod_ok : FnOK Tryd.prog 32 S_impl_Mod := by
 refine at_enter 15 (fun x => ⟨[(0, aI x.1), (1, aI x.2.1)], []⟩) Tryd.func32 rfl (by kernel_rfl) (fun x => rfl) ?_
 rintro w0 Z0 ⟨x0, x1, u⟩ a w
 revert x0 x1
 intro (x0 : Int) (x1 : Int) hpre hlens h
 have hT : TabOK Tryd.prog w0 [] S_impl_Mod_tab := (.cons S_impl_InRange_ok .nil)
 refine wp_seq ?_
 refine at_regq [] { ts := [0, 1, 4], os := [] } [] gamOK hT h (by kernel_rfl) trivial fun a w h => then_normal (wp_seq (wp_seq ?_))
 refine at_regq [] { ts := [0, 1, 4, 7], os := [] } [True] gamOK hT h (by kernel_rfl) ⟨trivial, trivial⟩ fun a w h => then_normal ?_
 refine at_test (!(inR x1 1 1000000000000)) h (by kernel_rfl) (fun h1 => ?_) (fun h1 => ?_)
 ·replace h1 : (inR x1 1 1000000000000) = false := notT h1
  have hvh1 := inR_f h1
  refine wp_seq ?_
  refine at_regq [] { ts := [0, 1, 4], os := [] } [] gamOK hT h (by kernel_rfl) trivial fun a w h => then_normal (wp_ret (then_ret ?_))
  exact at_return (0, ()) [] h (by kernel_rfl) trivial (congrArg (fun z => (z, ())) (show (0) = modF x0 x1 from by first | rfl | (unfold modF; rw [if_neg (neT h1)])))
 ·replace h1 : (inR x1 1 1000000000000) = true := notF h1
  have hvh1 := inR_t h1
  refine wp_skip (then_normal (wp_seq ?_))
  refine at_regq [{}, {}, {}, {}, { nw := true }] { ts := [4], os := [] } [(x1 : Int) ≠ 0, I64 ((Int.tmod x0 x1) + x1), (x1 : Int) ≠ 0] gamOK hT h (by kernel_rfl) ⟨(by first | omega | (have := tmod_bd (p := x0) (q := x1) (by omega); omega)), ⟨by (have hA0 := tmod_v x0 x1; first | omega | (have := tmod_bd (p := x0) (q := x1) (by omega); omega)), by (have hA0 := tmod_v x0 x1; first | omega | (have := tmod_bd (p := x0) (q := x1) (by omega); omega))⟩, (by first | omega | (have := tmod_bd (p := x0) (q := x1) (by omega); omega)), trivial⟩ fun a w h => then_normal (wp_ret ?_)
  exact at_return ((Int.tmod ((Int.tmod x0 x1) + x1) x1), ()) [] h (by kernel_rfl) trivial (congrArg (fun z => (z, ())) (show ((Int.tmod ((Int.tmod x0 x1) + x1) x1)) = modF x0 x1 from by first | rfl | (unfold modF; rw [if_pos h1])))

def S_spec_Mod : Sum := { fid := 37, dom := [(.int 3), (.int 3)], cod := [(.int 3)], dp := true, fz := false, pre := fun x => True, g := fun x => ((modF x.1 x.2.1), ()) }
def S_spec_Mod_tab : List (Nat × Sum) := [(50, S_spec_l1In)]
theorem S_spec_Mod_ok : FnOK Tryd.prog 37 S_spec_Mod := by
 refine at_enter 15 (fun x => ⟨[(0, aI x.1), (1, aI x.2.1)], []⟩) Tryd.func37 rfl (by kernel_rfl) (fun x => rfl) ?_
 rintro w0 Z0 ⟨x0, x1, u⟩ a w
 revert x0 x1
 intro (x0 : Int) (x1 : Int) hpre hlens h
 have hT : TabOK Tryd.prog w0 [] S_spec_Mod_tab := (.cons S_spec_l1In_ok .nil)
 refine wp_seq ?_
 refine at_regq [] { ts := [0, 1, 4], os := [] } [] gamOK hT h (by kernel_rfl) trivial fun a w h => then_normal (wp_seq (wp_seq ?_))
 refine at_regq [] { ts := [0, 1, 4, 7], os := [] } [True] gamOK hT h (by kernel_rfl) ⟨trivial, trivial⟩ fun a w h => then_normal ?_
 refine at_test (!(inR x1 1 1000000000000)) h (by kernel_rfl) (fun h1 => ?_) (fun h1 => ?_)
 ·replace h1 : (inR x1 1 1000000000000) = false := notT h1
  have hvh1 := inR_f h1
  refine wp_seq ?_
  refine at_regq [] { ts := [0, 1, 4], os := [] } [] gamOK hT h (by kernel_rfl) trivial fun a w h => then_normal (wp_ret (then_ret ?_))
  exact at_return (0, ()) [] h (by kernel_rfl) trivial (congrArg (fun z => (z, ())) (show (0) = modF x0 x1 from by first | rfl | (unfold modF; rw [if_neg (neT h1)]; done) | (unfold modF; simp_all)))
 ·replace h1 : (inR x1 1 1000000000000) = true := notF h1
  have hvh1 := inR_t h1
  refine wp_skip (then_normal (wp_seq ?_))
  refine at_regq [{}, {}, {}, {}, { nw := true }] { ts := [4], os := [] } [(x1 : Int) ≠ 0, I64 ((Int.tmod x0 x1) + x1), (x1 : Int) ≠ 0] gamOK hT h (by kernel_rfl) ⟨(by first | omega | (have := tmod_bd (p := x0) (q := x1) (by omega); omega)), ⟨by (have hA0 := tmod_v x0 x1; first | omega | (have := tmod_bd (p := x0) (q := x1) (by omega); omega)), by (have hA0 := tmod_v x0 x1; first | omega | (have := tmod_bd (p := x0) (q := x1) (by omega); omega))⟩, (by first | omega | (have := tmod_bd (p := x0) (q := x1) (by omega); omega)), trivial⟩ fun a w h => then_normal (wp_ret ?_)
  exact at_return ((Int.tmod ((Int.tmod x0 x1) + x1) x1), ()) [] h (by kernel_rfl) trivial (congrArg (fun z => (z, ())) (show ((Int.tmod ((Int.tmod x0 x1) + x1) x1)) = modF x0 x1 from by first | rfl | (unfold modF; rw [if_pos h1]; done) | (unfold modF; simp_all)))

def isEl (x0 : Int) : Bool := (inR x0 0 1018)
def S_impl_IsElement : Sum := { fid := 35, dom := [(.int 3)], cod := [(.bool 4)], dp := true, fz := false, pre := fun x => True, g := fun x => ((isEl x.1), ()) }
def S_impl_IsElement_tab : List (Nat × Sum) := [(25, S_impl_InRange)]
theorem S_impl_IsElement_ok : FnOK Tryd.prog 35 S_impl_IsElement := by
 refine at_enter 5 (fun x => ⟨[(0, aI x.1)], []⟩) Tryd.func35 rfl (by kernel_rfl) (fun x => rfl) ?_
 rintro w0 Z0 ⟨x0, u⟩ a w
 revert x0
 intro (x0 : Int) hpre hlens h
 have hT : TabOK Tryd.prog w0 [] S_impl_IsElement_tab := (.cons S_impl_InRange_ok .nil)
 refine wp_seq ?_
 refine at_regq [] { ts := [0, 2], os := [] } [] gamOK hT h (by kernel_rfl) trivial fun a w h => then_normal (wp_seq ?_)
 refine at_regq [] { ts := [2], os := [] } [True] gamOK hT h (by kernel_rfl) ⟨trivial, trivial⟩ fun a w h => then_normal (wp_ret ?_)
 exact at_return ((inR x0 0 1018), ()) [] h (by kernel_rfl) trivial (congrArg (fun z => (z, ())) (show ((inR x0 0 1018)) = isEl x0 from by rfl))
theorem isEl_t {x : Int} (h : isEl x = true) : 0 ≤ x ∧ x ≤ 1018 := inR_t h

def S_spec_IsElement : Sum := { fid := 38, dom := [(.int 3)], cod := [(.bool 4)], dp := true, fz := false, pre := fun x => True, g := fun x => ((isEl x.1), ()) }
def S_spec_IsElement_tab : List (Nat × Sum) := [(50, S_spec_l1In)]
theorem S_spec_IsElement_ok : FnOK Tryd.prog 38 S_spec_IsElement := by
 refine at_enter 5 (fun x => ⟨[(0, aI x.1)], []⟩) Tryd.func38 rfl (by kernel_rfl) (fun x => rfl) ?_
 rintro w0 Z0 ⟨x0, u⟩ a w
 revert x0
 intro (x0 : Int) hpre hlens h
 have hT : TabOK Tryd.prog w0 [] S_spec_IsElement_tab := (.cons S_spec_l1In_ok .nil)
 refine wp_seq ?_
 refine at_regq [] { ts := [0, 2], os := [] } [] gamOK hT h (by kernel_rfl) trivial fun a w h => then_normal (wp_seq ?_)
 refine at_regq [] { ts := [2], os := [] } [True] gamOK hT h (by kernel_rfl) ⟨trivial, trivial⟩ fun a w h => then_normal (wp_ret ?_)
 exact at_return ((inR x0 0 1018), ()) [] h (by kernel_rfl) trivial (congrArg (fun z => (z, ())) (show ((inR x0 0 1018)) = isEl x0 from by first | rfl | (unfold isEl; rfl; done) | (unfold isEl; simp_all)))

def D_spec_l4Both (x0 : Int) (x1 : Int) : Bool := (if (isEl x0) = true then (isEl x1) else false)
def S_spec_l4Both : Sum := { fid := 51, dom := [(.int 3), (.int 3)], cod := [(.bool 4)], dp := true, fz := false, pre := fun x => True, g := fun x => ((D_spec_l4Both x.1 x.2.1), ()) }
def S_spec_l4Both_tab : List (Nat × Sum) := [(38, S_spec_IsElement)]
theorem S_spec_l4Both_ok : FnOK Tryd.prog 51 S_spec_l4Both := by
 refine at_enter 11 (fun x => ⟨[(0, aI x.1), (1, aI x.2.1)], []⟩) Tryd.func51 rfl (by kernel_rfl) (fun x => rfl) ?_
 rintro w0 Z0 ⟨x0, x1, u⟩ a w
 revert x0 x1
 intro (x0 : Int) (x1 : Int) hpre hlens h
 have hT : TabOK Tryd.prog w0 [] S_spec_l4Both_tab := (.cons S_spec_IsElement_ok .nil)
 refine wp_seq ?_
 refine at_regq [] { ts := [0, 1, 4], os := [] } [] gamOK hT h (by kernel_rfl) trivial fun a w h => then_normal (wp_seq ?_)
 rcases Bool.eq_false_or_eq_true ((isEl x0)) with h1 | h1
 ·have hvh1 := isEl_t h1
  refine at_regq [{}, { hint := some (aB true) }] { ts := [4], os := [] } [True, (AV.p (.c (.v (.bool ((isEl x0))))) = AV.p (.c (.v (.bool true)))), True] gamOK hT h (by kernel_rfl) ⟨trivial, hint_bool (h1), trivial, trivial⟩ fun a w h => then_normal (wp_ret ?_)
  exact at_return ((isEl x1), ()) [] h (by kernel_rfl) trivial (congrArg (fun z => (z, ())) (show ((isEl x1)) = D_spec_l4Both x0 x1 from by first | rfl | (unfold D_spec_l4Both; rw [if_pos h1])))
 ·refine at_regq [{}, { hint := some (aB false) }] { ts := [4], os := [] } [True, (AV.p (.c (.v (.bool ((isEl x0))))) = AV.p (.c (.v (.bool false))))] gamOK hT h (by kernel_rfl) ⟨trivial, hint_bool (h1), trivial⟩ fun a w h => then_normal (wp_ret ?_)
  exact at_return (false, ()) [] h (by kernel_rfl) trivial (congrArg (fun z => (z, ())) (show (false) = D_spec_l4Both x0 x1 from by first | rfl | (unfold D_spec_l4Both; rw [if_neg (neT h1)])))
theorem l4Both_t {x y : Int} (h : D_spec_l4Both x y = true) : (0 ≤ x ∧ x ≤ 1018) ∧ (0 ≤ y ∧ y ≤ 1018) := by
 unfold D_spec_l4Both at h; split at h
 ·exact ⟨isEl_t (by assumption), isEl_t h⟩
 ·cases h

def addF (x0 : Int) (x1 : Int) : Int := (if (isEl x0) = true then (if (isEl x1) = true then (Int.tmod (x0 + x1) 1019) else 0) else 0)
def S_impl_AddField : Sum := { fid := 36, dom := [(.int 3), (.int 3)], cod := [(.int 3)], dp := true, fz := false, pre := fun x => True, g := fun x => ((addF x.1 x.2.1), ()) }
def S_impl_AddField_tab : List (Nat × Sum) := [(35, S_impl_IsElement)]
theorem S_impl_AddField_ok : FnOK Tryd.prog 36 S_impl_AddField := by
 refine at_enter 17 (fun x => ⟨[(0, aI x.1), (1, aI x.2.1)], []⟩) Tryd.func36 rfl (by kernel_rfl) (fun x => rfl) ?_
 rintro w0 Z0 ⟨x0, x1, u⟩ a w
 revert x0 x1
 intro (x0 : Int) (x1 : Int) hpre hlens h
 have hT : TabOK Tryd.prog w0 [] S_impl_AddField_tab := (.cons S_impl_IsElement_ok .nil)
 refine wp_seq ?_
 refine at_regq [] { ts := [0, 1, 4], os := [] } [] gamOK hT h (by kernel_rfl) trivial fun a w h => then_normal (wp_seq (wp_seq ?_))
 rcases Bool.eq_false_or_eq_true (!(isEl x0)) with h1 | h1
 ·have hzh1 : (isEl x0) = false := notT h1
  refine at_regq [{}, {}, { hint := some (aB true) }] { ts := [0, 1, 4, 12], os := [] } [True, (AV.p (.c (.v (.bool (!(isEl x0))))) = AV.p (.c (.v (.bool true))))] gamOK hT h (by kernel_rfl) ⟨trivial, hint_bool (h1), trivial⟩ fun a w h => then_normal ?_
  refine at_test true h (by kernel_rfl) (fun hh => ?_) (fun hh => nomatch hh)
  refine wp_seq ?_
  refine at_regq [] { ts := [0, 1, 4], os := [] } [] gamOK hT h (by kernel_rfl) trivial fun a w h => then_normal (wp_ret (then_ret ?_))
  exact at_return (0, ()) [] h (by kernel_rfl) trivial (congrArg (fun z => (z, ())) (show (0) = addF x0 x1 from by first | rfl | (unfold addF; rw [if_neg (neT (notT h1))])))
 ·have hzh1 : (isEl x0) = true := notF h1
  have hvh1 := isEl_t (notF h1)
  refine at_regq [{}, {}, { hint := some (aB false) }] { ts := [0, 1, 4, 12], os := [] } [True, (AV.p (.c (.v (.bool (!(isEl x0))))) = AV.p (.c (.v (.bool false)))), True] gamOK hT h (by kernel_rfl) ⟨trivial, hint_bool (h1), trivial, trivial⟩ fun a w h => then_normal ?_
  refine at_test (!(isEl x1)) h (by kernel_rfl) (fun h2 => ?_) (fun h2 => ?_)
  ·replace h2 : (isEl x1) = false := notT h2
   refine wp_seq ?_
   refine at_regq [] { ts := [0, 1, 4], os := [] } [] gamOK hT h (by kernel_rfl) trivial fun a w h => then_normal (wp_ret (then_ret ?_))
   exact at_return (0, ()) [] h (by kernel_rfl) trivial (congrArg (fun z => (z, ())) (show (0) = addF x0 x1 from by first | rfl | (unfold addF; rw [if_pos (notF h1), if_neg (neT h2)])))
  ·replace h2 : (isEl x1) = true := notF h2
   have hvh2 := isEl_t h2
   refine wp_skip (then_normal (wp_seq ?_))
   refine at_regq [{}, {}, { nw := true }] { ts := [4], os := [] } [I64 (x0 + x1), (1019 : Int) ≠ 0] gamOK hT h (by kernel_rfl) ⟨⟨by first | omega | (simp only [lsA]; omega) | (simp <;> omega), by first | omega | (simp only [lsA]; omega) | (simp <;> omega)⟩, (by first | omega | (simp only [lsA]; omega) | (simp <;> omega)), trivial⟩ fun a w h => then_normal (wp_ret ?_)
   exact at_return ((Int.tmod (x0 + x1) 1019), ()) [] h (by kernel_rfl) trivial (congrArg (fun z => (z, ())) (show ((Int.tmod (x0 + x1) 1019)) = addF x0 x1 from by first | rfl | (unfold addF; rw [if_pos (notF h1), if_pos h2])))

def S_spec_AddField : Sum := { fid := 39, dom := [(.int 3), (.int 3)], cod := [(.int 3)], dp := true, fz := false, pre := fun x => True, g := fun x => ((addF x.1 x.2.1), ()) }
def S_spec_AddField_tab : List (Nat × Sum) := [(51, S_spec_l4Both)]
theorem S_spec_AddField_ok : FnOK Tryd.prog 39 S_spec_AddField := by
 refine at_enter 13 (fun x => ⟨[(0, aI x.1), (1, aI x.2.1)], []⟩) Tryd.func39 rfl (by kernel_rfl) (fun x => rfl) ?_
 rintro w0 Z0 ⟨x0, x1, u⟩ a w
 revert x0 x1
 intro (x0 : Int) (x1 : Int) hpre hlens h
 have hT : TabOK Tryd.prog w0 [] S_spec_AddField_tab := (.cons S_spec_l4Both_ok .nil)
 refine wp_seq ?_
 refine at_regq [] { ts := [0, 1, 4], os := [] } [] gamOK hT h (by kernel_rfl) trivial fun a w h => then_normal (wp_seq (wp_seq ?_))
 refine at_regq [] { ts := [0, 1, 4, 8], os := [] } [True] gamOK hT h (by kernel_rfl) ⟨trivial, trivial⟩ fun a w h => then_normal ?_
 refine at_test (!(D_spec_l4Both x0 x1)) h (by kernel_rfl) (fun h1 => ?_) (fun h1 => ?_)
 ·replace h1 : (D_spec_l4Both x0 x1) = false := notT h1
  refine wp_seq ?_
  refine at_regq [] { ts := [0, 1, 4], os := [] } [] gamOK hT h (by kernel_rfl) trivial fun a w h => then_normal (wp_ret (then_ret ?_))
  exact at_return (0, ()) [] h (by kernel_rfl) trivial (congrArg (fun z => (z, ())) (show (0) = addF x0 x1 from by first | rfl | (unfold addF; rw [if_neg (neT h1)]; done) | (unfold addF; simp_all [D_spec_l4Both])))
 ·replace h1 : (D_spec_l4Both x0 x1) = true := notF h1
  have hvh1 := l4Both_t h1
  refine wp_skip (then_normal (wp_seq ?_))
  refine at_regq [{}, {}, { nw := true }] { ts := [4], os := [] } [I64 (x0 + x1), (1019 : Int) ≠ 0] gamOK hT h (by kernel_rfl) ⟨⟨by first | omega | (simp only [lsA]; omega) | (simp <;> omega), by first | omega | (simp only [lsA]; omega) | (simp <;> omega)⟩, (by first | omega | (simp only [lsA]; omega) | (simp <;> omega)), trivial⟩ fun a w h => then_normal (wp_ret ?_)
  exact at_return ((Int.tmod (x0 + x1) 1019), ()) [] h (by kernel_rfl) trivial (congrArg (fun z => (z, ())) (show ((Int.tmod (x0 + x1) 1019)) = addF x0 x1 from by first | rfl | (unfold addF; rw [if_pos h1]; done) | (unfold addF; simp_all [D_spec_l4Both])))

abbrev Q__impl_CodedPacket_clone := (fun (x0 : T29) => Sh.fit s29 x0)
def S__impl_CodedPacket_clone : Sum := { fid := 20, dom := [s29], cod := [s29], dp := true, fz := false, pre := fun x => Q__impl_CodedPacket_clone x.1, g := fun x => (((idD s29) x.1), ()) }
def S__impl_CodedPacket_clone_tab : List (Nat × Sum) := [(31, S_slices_Clone_S_int_int_)]
theorem S__impl_CodedPacket_clone_ok : FnOK Tryd.prog 20 S__impl_CodedPacket_clone := by
 refine at_enter 12 (fun x => ⟨[(0, aG [cI x.1.1, .ro (.int 3) x.1.2.1, .ro (.int 3) x.1.2.2])], []⟩) Tryd.func20 rfl (by kernel_rfl) (fun x => rfl) ?_
 rintro w0 Z0 ⟨x0, u⟩ a w
 revert x0
 intro (x0 : T29) hpre hlens h
 replace hpre : Q__impl_CodedPacket_clone x0 := hpre
 have hT : TabOK Tryd.prog w0 [] S__impl_CodedPacket_clone_tab := (.cons S_slices_Clone_S_int_int__ok .nil)
 have hf0 : Sh.fit s29 x0 := hpre
 have hn0_1 : List.length x0.2.1 ≤ 1073741824 := hf0.2.1.1
 have hn0_2 : List.length x0.2.2 ≤ 1073741824 := hf0.2.2.1
 refine wp_seq ?_
 refine at_regq [{ ids := [1] }, { ids := [2] }] { ts := [1, 2], os := [1, 2] } [] gamOK hT h (by kernel_rfl) trivial fun a w h => then_normal (wp_seq ?_)
 refine at_anyq [{}, {}, {}, {}, { ids := [3] }, {}, {}, { ids := [4] }, {}, {}] { ts := [2], os := [2, 3, 4] } [(lenOK (α := Int)) x0.2.1, (lenOK (α := Int)) x0.2.2] gamOK hT mixed h (by kernel_rfl) ⟨(by first | assumption | trivial | (first | omega | (simp only [lsA]; omega) | (simp <;> omega))), (by first | assumption | trivial | (first | omega | (simp only [lsA]; omega) | (simp <;> omega))), trivial⟩ fun a w h => then_normal (wp_ret ?_)
 exact at_return (x0, ()) [] h (by kernel_rfl) trivial (congrArg (fun z => (z, ())) (show (x0) = (idD s29) x0 from by rfl))

abbrev Q_spec_l11Copy := (fun (x0 : T29) => Sh.fit s29 x0)
def S_spec_l11Copy : Sum := { fid := 23, dom := [s29], cod := [s29], dp := true, fz := false, pre := fun x => Q_spec_l11Copy x.1, g := fun x => (((idD s29) x.1), ()) }
def S_spec_l11Copy_tab : List (Nat × Sum) := []
theorem S_spec_l11Copy_ok : FnOK Tryd.prog 23 S_spec_l11Copy := by
 refine at_enter 14 (fun x => ⟨[(0, aG [cI x.1.1, .ro (.int 3) x.1.2.1, .ro (.int 3) x.1.2.2])], []⟩) Tryd.func23 rfl (by kernel_rfl) (fun x => rfl) ?_
 rintro w0 Z0 ⟨x0, u⟩ a w
 revert x0
 intro (x0 : T29) hpre hlens h
 replace hpre : Q_spec_l11Copy x0 := hpre
 have hT : TabOK Tryd.prog w0 [] S_spec_l11Copy_tab := .nil
 have hf0 : Sh.fit s29 x0 := hpre
 have hn0_1 : List.length x0.2.1 ≤ 1073741824 := hf0.2.1.1
 have hn0_2 : List.length x0.2.2 ≤ 1073741824 := hf0.2.2.1
 refine wp_seq ?_
 refine at_regq [{ ids := [1] }, { ids := [2] }] { ts := [1, 2], os := [1, 2] } [] gamOK hT h (by kernel_rfl) trivial fun a w h => then_normal (wp_seq ?_)
 refine at_anyq [{}, {}, { ids := [3] }, {}, {}, { ids := [4] }, { ids := [5] }, {}, {}, { ids := [6] }, {}, {}] { ts := [2], os := [2, 4, 6] } [(List.length ([] : List Int) + List.length x0.2.1) * 8 ≤ 140737488355328, (List.length ([] : List Int) + List.length x0.2.2) * 8 ≤ 140737488355328] gamOK hT mixed h (by kernel_rfl) ⟨(by first | omega | (simp only [lsA]; omega) | (simp <;> omega)), (by first | omega | (simp only [lsA]; omega) | (simp <;> omega)), trivial⟩ fun a w h => then_normal (wp_ret ?_)
 exact at_return ((x0.1, ((([] : List Int) ++ x0.2.1), (([] : List Int) ++ x0.2.2))), ()) [] h (by kernel_rfl) trivial (congrArg (fun z => (z, ())) (show ((x0.1, ((([] : List Int) ++ x0.2.1), (([] : List Int) ++ x0.2.2)))) = (idD s29) x0 from by rfl))

abbrev Q_spec_l11All := (fun (x0 : (List T29)) => Sh.fit s49 x0)
def S_spec_l11All : Sum := { fid := 61, dom := [s49], cod := [s49], dp := true, fz := false, pre := fun x => Q_spec_l11All x.1, g := fun x => (((idD s49) x.1), ()) }
def S_spec_l11All_tab : List (Nat × Sum) := [(23, S_spec_l11Copy)]
theorem S_spec_l11All_ok : FnOK Tryd.prog 61 S_spec_l11All := by
 refine at_enter 21 (fun x => ⟨[(0, aF s29 x.1)], []⟩) Tryd.func61 rfl (by kernel_rfl) (fun x => rfl) ?_
 rintro w0 Z0 ⟨x0, u⟩ a w
 revert x0
 intro (x0 : (List T29)) hpre hlens h
 replace hpre : Q_spec_l11All x0 := hpre
 have hT : TabOK Tryd.prog w0 [] S_spec_l11All_tab := (.cons S_spec_l11Copy_ok .nil)
 have hf0 : Sh.fit s49 x0 := hpre
 have hn0_1 : List.length x0 ≤ 1073741824 := hf0.1
 refine wp_seq ?_
 refine at_regq [] { ts := [0, 2], os := [] } [] gamOK hT h (by kernel_rfl) trivial fun a w h => then_normal (wp_seq ?_)
 refine at_regq [{ ids := [1] }] { ts := [0, 2, 3], os := [1] } [] gamOK hT h (by kernel_rfl) trivial fun a w h => then_normal (wp_seq (wp_seq ?_))
 refine at_regq [] { ts := [0, 2, 3, 4], os := [1] } [] gamOK hT h (by kernel_rfl) trivial fun a w h => then_normal (wp_block ?_)
 replace h := at_out (σ' := ⟨[(0, aF s29 x0), (2, .p (.c (cN))), (3, aS 1), (4, aI 0)], [(1, oR s29 ([] : List T29))]⟩) { ts := [0, 2, 3, 4], os := [1] } h (by kernel_rfl)
 refine at_loop (fun i : Nat => (⟨[(0, aF s29 x0), (2, .p (.c (cN))), (3, aS 1), (4, aI ((i : Nat) : Int))], [(1, oR s29 (List.take i x0))]⟩ : St)) (fun i => i ≤ List.length x0) (fun i => List.length x0 - i) (0) h (st_congr2 (fun (d0 : List T29) (d1 : Int) => (⟨[(0, aF s29 x0), (2, .p (.c (cN))), (3, aS 1), (4, aI d1)], [(1, oR s29 d0)]⟩ : St)) (show (([] : List T29) : List T29) = (List.take (0) x0) from by first | with_reducible rfl | (rfl) | rfl) (show (0 : Int) = (((0) : Nat) : Int) from by first | with_reducible rfl | (rfl) | rfl)) (by first | omega | simp | (refine ⟨?_, ?_⟩ <;> first | omega | simp)) ?_
 intro i a w hok0 h
 have hlt := len_take_le (xs := x0) i
 refine wp_seq (wp_seq ?_)
 refine at_regq [] { ts := [0, 2, 3, 4, 9], os := [1] } [] gamOK hT h (by kernel_rfl) trivial fun a w h => then_normal ?_
 refine at_test (decide (((i : Nat) : Int) < ((List.length x0 : Nat) : Int))) h (by kernel_rfl) (fun h1 => ?_) (fun h1 => ?_)
 ·replace h1 : ((i : Nat) : Int) < ((List.length x0 : Nat) : Int) := of_decide_eq_true h1
  refine wp_skip (then_normal (wp_seq (wp_block ?_)))
  refine at_regq [{}, {}, {}, {}, {}, { ids := [2, 3] }, { ids := [4] }, { ids := [5] }] { ts := [0, 2, 3, 4], os := [5] } [(0 : Int) ≤ ((i : Nat) : Int) ∧ ((i : Nat) : Int) < ((List.length x0 : Nat) : Int), Q_spec_l11Copy (x0.getD i (0, ([], []))), (List.length (List.take i x0) + List.length ([(x0.getD i (0, ([], [])))])) * 56 ≤ 140737488355328] gamOK hT h (by kernel_rfl) ⟨(by refine ⟨?_, ?_⟩ <;> (first | omega | (simp only [lsA]; omega) | (simp <;> omega))), (by exact (Sh.fit_getD hf0 i)), (by (have hL0 := (show List.length (List.take i x0) ≤ 1073741824 from ((Sh.fit_take hf0 i)).1); first | omega | (simp only [lsA]; omega) | (simp <;> omega))), trivial⟩ fun a w h => in_normal (then_normal ?_)
  refine at_regq [{}, { nw := true }] { ts := [0, 2, 3, 4], os := [5] } [I64 (((i : Nat) : Int) + 1)] gamOK hT h (by kernel_rfl) ⟨⟨by first | omega | (simp only [lsA]; omega) | (simp <;> omega), by first | omega | (simp only [lsA]; omega) | (simp <;> omega)⟩, trivial⟩ fun a w h => ?_
  replace h := at_out (σ' := ⟨[(0, aF s29 x0), (2, .p (.c (cN))), (3, aS 1), (4, aI (((i : Nat) : Int) + 1))], [(1, oR s29 ((List.take i x0) ++ ([(x0.getD i (0, ([], [])))])))]⟩) { ts := [0, 2, 3, 4], os := [5], rn := [(5, 1)] } h (by kernel_rfl)
  exact ⟨i + 1, at_eq h (st_congr2 (fun (d0 : List T29) (d1 : Int) => (⟨[(0, aF s29 x0), (2, .p (.c (cN))), (3, aS 1), (4, aI d1)], [(1, oR s29 d0)]⟩ : St)) (show (((List.take i x0) ++ ([(x0.getD i (0, ([], [])))])) : List T29) = (List.take (i + 1) x0) from by first | with_reducible rfl | (rw [take_snoc (z := (0, ([], []))) (by omega)]) | rfl) (show (((i : Nat) : Int) + 1 : Int) = (((i + 1) : Nat) : Int) from by first | with_reducible rfl | (omega) | rfl)), (by first | omega | (refine ⟨?_, ?_⟩ <;> omega)), (by omega)⟩
 ·replace h1 : ¬ (((i : Nat) : Int) < ((List.length x0 : Nat) : Int)) := of_decide_eq_false h1
  refine wp_exit (then_exit (then_exit (in_hit (then_normal (wp_seq ?_)))))
  refine at_regq [] { ts := [2], os := [1] } [] gamOK hT h (by kernel_rfl) trivial fun a w h => then_normal (wp_ret ?_)
  exact at_return ((List.take i x0), ()) [] h (by kernel_rfl) trivial (congrArg (fun z => (z, ())) (show ((List.take i x0)) = (idD s49) x0 from by (rw [take_all (by omega)]; rfl)))

abbrev Q_spec_l15Copy := (fun (x0 : T51) => Sh.fit s51 x0)
def S_spec_l15Copy : Sum := { fid := 52, dom := [s51], cod := [s51], dp := true, fz := false, pre := fun x => Q_spec_l15Copy x.1, g := fun x => (((idD s51) x.1), ()) }
def S_spec_l15Copy_tab : List (Nat × Sum) := [(61, S_spec_l11All)]
theorem S_spec_l15Copy_ok : FnOK Tryd.prog 52 S_spec_l15Copy := by
 refine at_enter 10 (fun x => ⟨[(0, aG [cI x.1.1, cI x.1.2.1, cI x.1.2.2.1, .ro s29 x.1.2.2.2.1, cI x.1.2.2.2.2])], []⟩) Tryd.func52 rfl (by kernel_rfl) (fun x => rfl) ?_
 rintro w0 Z0 ⟨x0, u⟩ a w
 revert x0
 intro (x0 : T51) hpre hlens h
 replace hpre : Q_spec_l15Copy x0 := hpre
 have hT : TabOK Tryd.prog w0 [] S_spec_l15Copy_tab := (.cons S_spec_l11All_ok .nil)
 have hf0 : Sh.fit s51 x0 := hpre
 have hn0_1 : List.length x0.2.2.2.1 ≤ 1073741824 := hf0.2.2.2.1.1
 refine wp_seq ?_
 refine at_regq [{ ids := [1] }, { ids := [2] }] { ts := [1, 2], os := [1, 2] } [] gamOK hT h (by kernel_rfl) trivial fun a w h => then_normal (wp_seq ?_)
 refine at_regq [{}, { ids := [3] }] { ts := [1, 2, 3], os := [1, 2, 3] } [] gamOK hT h (by kernel_rfl) trivial fun a w h => then_normal (wp_seq ?_)
 refine at_regq [{}, {}, { ids := [4] }] { ts := [2, 3], os := [2, 3, 4] } [Q_spec_l11All x0.2.2.2.1] gamOK hT h (by kernel_rfl) ⟨(by exact hf0.2.2.2.1), trivial⟩ fun a w h => then_normal (wp_seq ?_)
 refine at_regq [] { ts := [2], os := [2, 4] } [] gamOK hT h (by kernel_rfl) trivial fun a w h => then_normal (wp_ret ?_)
 exact at_return (x0, ()) [] h (by kernel_rfl) trivial (congrArg (fun z => (z, ())) (show (x0) = (idD s51) x0 from by rfl))

def D_impl_PolluteComponent_1 := (fun e => !isEl e)
def S_impl_PolluteComponent_1 : Sum := { fid := 34, dom := [(.int 3)], cod := [(.bool 4)], dp := true, fz := false, pre := fun x => True, g := fun x => ((D_impl_PolluteComponent_1 x.1), ()) }
def S_impl_PolluteComponent_1_tab : List (Nat × Sum) := [(35, S_impl_IsElement)]
theorem S_impl_PolluteComponent_1_ok : FnOK Tryd.prog 34 S_impl_PolluteComponent_1 := by
 refine at_enter 6 (fun x => ⟨[(0, aI x.1)], []⟩) Tryd.func34 rfl (by kernel_rfl) (fun x => rfl) ?_
 rintro w0 Z0 ⟨x0, u⟩ a w
 revert x0
 intro (x0 : Int) hpre hlens h
 have hT : TabOK Tryd.prog w0 [] S_impl_PolluteComponent_1_tab := (.cons S_impl_IsElement_ok .nil)
 refine wp_seq ?_
 refine at_regq [] { ts := [0, 2], os := [] } [] gamOK hT h (by kernel_rfl) trivial fun a w h => then_normal (wp_seq ?_)
 refine at_regq [] { ts := [2], os := [] } [True] gamOK hT h (by kernel_rfl) ⟨trivial, trivial⟩ fun a w h => then_normal (wp_ret ?_)
 exact at_return (!(isEl x0), ()) [] h (by kernel_rfl) trivial (congrArg (fun z => (z, ())) (show (!(isEl x0)) = D_impl_PolluteComponent_1 x0 from by unfold D_impl_PolluteComponent_1; rfl))

def D_slices_IndexFunc_S_int_int__PolluteComponent_1 := (fun (xs : List Int) (cap : Unit) => idxF (fun e => !isEl e) xs)
def S_slices_IndexFunc_S_int_int__PolluteComponent_1 : Sum := { fid := 49, dom := [s27, (.fn0 34)], cod := [(.int 3)], dp := true, fz := false, pre := fun x => True, g := fun x => ((D_slices_IndexFunc_S_int_int__PolluteComponent_1 x.1 x.2.1), ()) }
def S_slices_IndexFunc_S_int_int__PolluteComponent_1_tab : List (Nat × Sum) := [(34, S_impl_PolluteComponent_1)]
theorem S_slices_IndexFunc_S_int_int__PolluteComponent_1_ok : FnOK Tryd.prog 49 S_slices_IndexFunc_S_int_int__PolluteComponent_1 := by
 refine at_enter 19 (fun x => ⟨[(0, aF (.int 3) x.1), (1, .p (.c (.cl 34 .cnil)))], []⟩) Tryd.func49 rfl (by kernel_rfl) (fun x => rfl) ?_
 rintro w0 Z0 ⟨x0, x1, u⟩ a w
 revert x0 x1
 intro (x0 : (List Int)) (x1 : Unit) hpre hlens h
 have hl1 : List.length x0 ≤ 9223372036854775807 := hlens.1.1
 have hT : TabOK Tryd.prog w0 [] S_slices_IndexFunc_S_int_int__PolluteComponent_1_tab := (.cons S_impl_PolluteComponent_1_ok .nil)
 refine wp_seq ?_
 refine at_regq [] { ts := [0, 1, 4], os := [] } [] gamOK hT h (by kernel_rfl) trivial fun a w h => then_normal (wp_seq (wp_seq ?_))
 refine at_regq [] { ts := [0, 1, 4, 7, 8], os := [] } [] gamOK hT h (by kernel_rfl) trivial fun a w h => then_normal (wp_block ?_)
 replace h := at_out (σ' := ⟨[(0, aF (.int 3) x0), (1, .p (.c (.cl 34 .cnil))), (4, aI 0), (7, aI ((List.length x0 : Nat) : Int)), (8, aI 0)], []⟩) { ts := [0, 1, 4, 7, 8], os := [] } h (by kernel_rfl)
 refine at_loop (fun i : Nat => (⟨[(0, aF (.int 3) x0), (1, .p (.c (.cl 34 .cnil))), (4, aI 0), (7, aI ((List.length x0 : Nat) : Int)), (8, aI ((i : Nat) : Int))], []⟩ : St)) (fun i => (i ≤ List.length x0 ∧ noneTo (fun e => !isEl e) x0 0 i)) (fun i => List.length x0 - i) (0) h (st_congr1 (fun (d0 : Int) => (⟨[(0, aF (.int 3) x0), (1, .p (.c (.cl 34 .cnil))), (4, aI 0), (7, aI ((List.length x0 : Nat) : Int)), (8, aI d0)], []⟩ : St)) (show (0 : Int) = (((0) : Nat) : Int) from by first | with_reducible rfl | (rfl) | rfl)) (by exact ⟨Nat.zero_le _, noneTo_zero⟩) ?_
 intro i a w hok0 h
 refine wp_seq ?_
 refine at_regq [] { ts := [0, 1, 4, 7, 8, 9], os := [] } [] gamOK hT h (by kernel_rfl) trivial fun a w h => then_normal (wp_seq ?_)
 refine at_test (decide (((i : Nat) : Int) < ((List.length x0 : Nat) : Int))) h (by kernel_rfl) (fun h1 => ?_) (fun h1 => ?_)
 ·replace h1 : ((i : Nat) : Int) < ((List.length x0 : Nat) : Int) := of_decide_eq_true h1
  refine wp_skip (then_normal (wp_seq (wp_block (wp_seq ?_))))
  refine at_regq [] { ts := [0, 1, 4, 5, 7, 8], os := [] } [] gamOK hT h (by kernel_rfl) trivial fun a w h => then_normal (wp_seq ?_)
  refine at_regq [] { ts := [0, 1, 4, 5, 7, 8, 16], os := [] } [(0 : Int) ≤ ((i : Nat) : Int) ∧ ((i : Nat) : Int) < ((List.length x0 : Nat) : Int), True] gamOK hT h (by kernel_rfl) ⟨(by refine ⟨?_, ?_⟩ <;> (first | omega | (simp only [lsA]; omega) | (simp <;> omega))), trivial, trivial⟩ fun a w h => then_normal ?_
  refine at_test ((D_impl_PolluteComponent_1 (x0.getD i 0))) h (by kernel_rfl) (fun h2 => ?_) (fun h2 => ?_)
  ·refine wp_seq ?_
   refine at_regq [] { ts := [0, 1, 4, 7, 8], os := [] } [] gamOK hT h (by kernel_rfl) trivial fun a w h => then_normal (wp_ret (in_ret (then_ret (then_ret (in_ret (then_ret ?_))))))
   exact at_return (((i : Nat) : Int), ()) [] h (by kernel_rfl) trivial (congrArg (fun z => (z, ())) (show (((i : Nat) : Int)) = D_slices_IndexFunc_S_int_int__PolluteComponent_1 x0 x1 from by unfold D_slices_IndexFunc_S_int_int__PolluteComponent_1; exact (idxF_at (z := 0) (by omega) hok0.2 h2).symm))
  ·refine wp_skip (in_normal (then_normal ?_))
   refine at_regq [{ nw := true }] { ts := [0, 1, 4, 7, 8], os := [] } [I64 (((i : Nat) : Int) + 1)] gamOK hT h (by kernel_rfl) ⟨⟨by first | omega | (simp only [lsA]; omega) | (simp <;> omega), by first | omega | (simp only [lsA]; omega) | (simp <;> omega)⟩, trivial⟩ fun a w h => ?_
   replace h := at_out (σ' := ⟨[(0, aF (.int 3) x0), (1, .p (.c (.cl 34 .cnil))), (4, aI 0), (7, aI ((List.length x0 : Nat) : Int)), (8, aI (((i : Nat) : Int) + 1))], []⟩) { ts := [0, 1, 4, 7, 8], os := [] } h (by kernel_rfl)
   exact ⟨i + 1, at_eq h (st_congr1 (fun (d0 : Int) => (⟨[(0, aF (.int 3) x0), (1, .p (.c (.cl 34 .cnil))), (4, aI 0), (7, aI ((List.length x0 : Nat) : Int)), (8, aI d0)], []⟩ : St)) (show (((i : Nat) : Int) + 1 : Int) = (((i + 1) : Nat) : Int) from by first | with_reducible rfl | (omega) | rfl)), (by exact ⟨by omega, noneTo_succ hok0.2 h2⟩), (by omega)⟩
 ·replace h1 : ¬ (((i : Nat) : Int) < ((List.length x0 : Nat) : Int)) := of_decide_eq_false h1
  refine wp_exit (then_exit (then_exit (in_hit (then_normal (wp_seq ?_)))))
  refine at_regq [] { ts := [4], os := [] } [] gamOK hT h (by kernel_rfl) trivial fun a w h => then_normal (wp_ret ?_)
  exact at_return ((-1), ()) [] h (by kernel_rfl) trivial (congrArg (fun z => (z, ())) (show ((-1)) = D_slices_IndexFunc_S_int_int__PolluteComponent_1 x0 x1 from by unfold D_slices_IndexFunc_S_int_int__PolluteComponent_1; exact (idxF_none (z := 0) (by omega) hok0.2).symm))

def D_slices_ContainsFunc_S_int_int__PolluteComponent_1 := (fun (xs : List Int) (cap : Unit) => xs.any fun e => !isEl e)
def S_slices_ContainsFunc_S_int_int__PolluteComponent_1 : Sum := { fid := 33, dom := [s27, (.fn0 34)], cod := [(.bool 4)], dp := true, fz := false, pre := fun x => True, g := fun x => ((D_slices_ContainsFunc_S_int_int__PolluteComponent_1 x.1 x.2.1), ()) }
def S_slices_ContainsFunc_S_int_int__PolluteComponent_1_tab : List (Nat × Sum) := [(100001, S_slices_IndexFunc_S_int_int__PolluteComponent_1)]
theorem S_slices_ContainsFunc_S_int_int__PolluteComponent_1_ok : FnOK Tryd.prog 33 S_slices_ContainsFunc_S_int_int__PolluteComponent_1 := by
 refine at_enter 9 (fun x => ⟨[(0, aF (.int 3) x.1), (1, .p (.c (.cl 34 .cnil)))], []⟩) Tryd.func33 rfl (by kernel_rfl) (fun x => rfl) ?_
 rintro w0 Z0 ⟨x0, x1, u⟩ a w
 revert x0 x1
 intro (x0 : (List Int)) (x1 : Unit) hpre hlens h
 have hl1 : List.length x0 ≤ 9223372036854775807 := hlens.1.1
 have hT : TabOK Tryd.prog w0 [] S_slices_ContainsFunc_S_int_int__PolluteComponent_1_tab := (.cons S_slices_IndexFunc_S_int_int__PolluteComponent_1_ok .nil)
 refine wp_seq ?_
 refine at_regq [] { ts := [0, 1, 4], os := [] } [] gamOK hT h (by kernel_rfl) trivial fun a w h => then_normal (wp_seq ?_)
 refine at_regq [{}, {}, { key := some 100001 }] { ts := [4], os := [] } [True] gamOK hT h (by kernel_rfl) ⟨trivial, trivial⟩ fun a w h => then_normal (wp_ret ?_)
 exact at_return (decide ((D_slices_IndexFunc_S_int_int__PolluteComponent_1 x0 ()) ≥ 0), ()) [] h (by kernel_rfl) trivial (congrArg (fun z => (z, ())) (show (decide ((D_slices_IndexFunc_S_int_int__PolluteComponent_1 x0 ()) ≥ 0)) = D_slices_ContainsFunc_S_int_int__PolluteComponent_1 x0 x1 from by unfold D_slices_ContainsFunc_S_int_int__PolluteComponent_1; exact idxF_any))

def pollute (x0 : T29) (x1 : Int) (x2 : Int) : T29 × Bool := (if ((List.length x0.2.2 : Nat) : Int) = 0 then (x0, false) else (if x1 < 0 then (x0, false) else (if (modF x2 1019) = 0 then (x0, false) else (if (List.all x0.2.2 isEl) = true then ((x0.1, (x0.2.1, (List.set x0.2.2 (((Int.tmod x1 ((List.length x0.2.2 : Nat) : Int))).toNat) (addF (x0.2.2.getD (((Int.tmod x1 ((List.length x0.2.2 : Nat) : Int))).toNat) 0) (modF x2 1019))))), true) else (x0, false)))))
abbrev Q_spec_PolluteComponent := (fun (x0 : T29) (x1 : Int) (x2 : Int) => Sh.fit s29 x0)
def S_spec_PolluteComponent : Sum := { fid := 24, dom := [s29, (.int 3), (.int 3)], cod := [s29, (.bool 4)], dp := true, fz := false, pre := fun x => Q_spec_PolluteComponent x.1 x.2.1 x.2.2.1, g := fun x => ((pollute x.1 x.2.1 x.2.2.1).1, ((pollute x.1 x.2.1 x.2.2.1).2, ())) }
def S_spec_PolluteComponent_tab : List (Nat × Sum) := [(23, S_spec_l11Copy), (37, S_spec_Mod), (38, S_spec_IsElement), (39, S_spec_AddField)]
theorem S_spec_PolluteComponent_ok : FnOK Tryd.prog 24 S_spec_PolluteComponent := by
 refine at_enter 60 (fun x => ⟨[(0, aG [cI x.1.1, .ro (.int 3) x.1.2.1, .ro (.int 3) x.1.2.2]), (1, aI x.2.1), (2, aI x.2.2.1)], []⟩) Tryd.func24 rfl (by kernel_rfl) (fun x => rfl) ?_
 rintro w0 Z0 ⟨x0, x1, x2, u⟩ a w
 revert x0 x1 x2
 intro (x0 : T29) (x1 : Int) (x2 : Int) hpre hlens h
 replace hpre : Q_spec_PolluteComponent x0 x1 x2 := hpre
 have hT : TabOK Tryd.prog w0 [] S_spec_PolluteComponent_tab := (.cons S_spec_l11Copy_ok (.cons S_spec_Mod_ok (.cons S_spec_IsElement_ok (.cons S_spec_AddField_ok .nil))))
 have hf0 : Sh.fit s29 x0 := hpre
 have hn0_1 : List.length x0.2.1 ≤ 1073741824 := hf0.2.1.1
 have hn0_2 : List.length x0.2.2 ≤ 1073741824 := hf0.2.2.1
 refine wp_seq ?_
 refine at_regq [{ ids := [1] }, { ids := [2] }] { ts := [1, 2, 3, 6, 7], os := [1, 2] } [] gamOK hT h (by kernel_rfl) trivial fun a w h => then_normal (wp_seq ?_)
 refine at_regq [{}, { ids := [3, 4] }, { ids := [5] }] { ts := [1, 2, 3, 6, 7, 8], os := [1, 2, 3, 4, 5] } [Q_spec_l11Copy x0] gamOK hT h (by kernel_rfl) ⟨(by exact hf0), trivial⟩ fun a w h => then_normal (wp_seq (wp_seq ?_))
 by_cases h1 : ((List.length x0.2.2 : Nat) : Int) = 0
 ·refine at_regq [{}, {}, {}, { hint := some (aB true) }] { ts := [1, 2, 3, 6, 7, 8, 25], os := [1, 2, 3, 4, 5] } [(AV.p (.c (.v (.bool (decide (((List.length x0.2.2 : Nat) : Int) = 0))))) = AV.p (.c (.v (.bool true))))] gamOK hT h (by kernel_rfl) ⟨hint_bool (decide_eq_true h1), trivial⟩ fun a w h => then_normal ?_
  refine at_test true h (by kernel_rfl) (fun hh => ?_) (fun hh => nomatch hh)
  refine wp_seq ?_
  refine at_regq [] { ts := [1, 2, 3, 6, 7, 8], os := [1, 2, 3, 4, 5] } [] gamOK hT h (by kernel_rfl) trivial fun a w h => then_normal (wp_ret (then_ret ?_))
  exact at_return (x0, (false, ())) [] h (by kernel_rfl) trivial (congrArg (fun z => (z.1, z.2, ())) (show ((x0, false)) = pollute x0 x1 x2 from by first | rfl | (unfold pollute; rw [if_pos h1])))
 ·by_cases h2 : x1 < 0
  ·refine at_regq [{}, {}, {}, { hint := some (aB false) }, {}, {}, { hint := some (aB true) }] { ts := [1, 2, 3, 6, 7, 8, 25], os := [1, 2, 3, 4, 5] } [(AV.p (.c (.v (.bool (decide (((List.length x0.2.2 : Nat) : Int) = 0))))) = AV.p (.c (.v (.bool false)))), (AV.p (.c (.v (.bool (decide (x1 < 0))))) = AV.p (.c (.v (.bool true))))] gamOK hT h (by kernel_rfl) ⟨hint_bool (decide_eq_false h1), hint_bool (decide_eq_true h2), trivial⟩ fun a w h => then_normal ?_
   refine at_test true h (by kernel_rfl) (fun hh => ?_) (fun hh => nomatch hh)
   refine wp_seq ?_
   refine at_regq [] { ts := [1, 2, 3, 6, 7, 8], os := [1, 2, 3, 4, 5] } [] gamOK hT h (by kernel_rfl) trivial fun a w h => then_normal (wp_ret (then_ret ?_))
   exact at_return (x0, (false, ())) [] h (by kernel_rfl) trivial (congrArg (fun z => (z.1, z.2, ())) (show ((x0, false)) = pollute x0 x1 x2 from by first | rfl | (unfold pollute; rw [if_neg h1, if_pos h2])))
  ·refine at_regq [{}, {}, {}, { hint := some (aB false) }, {}, {}, { hint := some (aB false) }] { ts := [1, 2, 3, 6, 7, 8, 25], os := [1, 2, 3, 4, 5] } [(AV.p (.c (.v (.bool (decide (((List.length x0.2.2 : Nat) : Int) = 0))))) = AV.p (.c (.v (.bool false)))), (AV.p (.c (.v (.bool (decide (x1 < 0))))) = AV.p (.c (.v (.bool false)))), True] gamOK hT h (by kernel_rfl) ⟨hint_bool (decide_eq_false h1), hint_bool (decide_eq_false h2), trivial, trivial⟩ fun a w h => then_normal ?_
   refine at_test (decide ((modF x2 1019) = 0)) h (by kernel_rfl) (fun h3 => ?_) (fun h3 => ?_)
   ·replace h3 : (modF x2 1019) = 0 := of_decide_eq_true h3
    refine wp_seq ?_
    refine at_regq [] { ts := [1, 2, 3, 6, 7, 8], os := [1, 2, 3, 4, 5] } [] gamOK hT h (by kernel_rfl) trivial fun a w h => then_normal (wp_ret (then_ret ?_))
    exact at_return (x0, (false, ())) [] h (by kernel_rfl) trivial (congrArg (fun z => (z.1, z.2, ())) (show ((x0, false)) = pollute x0 x1 x2 from by first | rfl | (unfold pollute; rw [if_neg h1, if_neg h2, if_pos h3])))
   ·replace h3 : ¬ ((modF x2 1019) = 0) := of_decide_eq_false h3
    refine wp_skip (then_normal (wp_seq (wp_seq ?_)))
    refine at_regq [] { ts := [1, 2, 3, 6, 7, 8, 9], os := [1, 2, 3, 4, 5] } [] gamOK hT h (by kernel_rfl) trivial fun a w h => then_normal (wp_block ?_)
    replace h := at_out (σ' := ⟨[(1, aI x1), (2, aI x2), (3, aP 1 0), (6, aP 2 0), (7, aB false), (8, aP 5 0), (9, aI 0)], [(1, oX 29 [cI x0.1, .ro (.int 3) x0.2.1, .ro (.int 3) x0.2.2]), (2, oX 29 [cI 0, cN, cN]), (3, oR (.int 3) x0.2.1), (4, oR (.int 3) x0.2.2), (5, oX 29 [cI x0.1, .sl 3, .sl 4])]⟩) { ts := [1, 2, 3, 6, 7, 8, 9], os := [1, 2, 3, 4, 5] } h (by kernel_rfl)
    refine at_loop (fun i : Nat => (⟨[(1, aI x1), (2, aI x2), (3, aP 1 0), (6, aP 2 0), (7, aB false), (8, aP 5 0), (9, aI ((i : Nat) : Int))], [(1, oX 29 [cI x0.1, .ro (.int 3) x0.2.1, .ro (.int 3) x0.2.2]), (2, oX 29 [cI 0, cN, cN]), (3, oR (.int 3) x0.2.1), (4, oR (.int 3) x0.2.2), (5, oX 29 [cI x0.1, .sl 3, .sl 4])]⟩ : St)) (fun i => (i ≤ List.length x0.2.2 ∧ allTo1 isEl x0.2.2 0 i)) (fun i => List.length x0.2.2 - i) (0) h (st_congr1 (fun (d0 : Int) => (⟨[(1, aI x1), (2, aI x2), (3, aP 1 0), (6, aP 2 0), (7, aB false), (8, aP 5 0), (9, aI d0)], [(1, oX 29 [cI x0.1, .ro (.int 3) x0.2.1, .ro (.int 3) x0.2.2]), (2, oX 29 [cI 0, cN, cN]), (3, oR (.int 3) x0.2.1), (4, oR (.int 3) x0.2.2), (5, oX 29 [cI x0.1, .sl 3, .sl 4])]⟩ : St)) (show (0 : Int) = (((0) : Nat) : Int) from by first | with_reducible rfl | (rfl) | rfl)) (by exact ⟨Nat.zero_le _, allTo1_zero⟩) ?_
    intro i a w hok0 h
    refine wp_seq (wp_seq ?_)
    refine at_regq [] { ts := [1, 2, 3, 6, 7, 8, 9, 31], os := [1, 2, 3, 4, 5] } [] gamOK hT h (by kernel_rfl) trivial fun a w h => then_normal ?_
    refine at_test (decide (((i : Nat) : Int) < ((List.length x0.2.2 : Nat) : Int))) h (by kernel_rfl) (fun h4 => ?_) (fun h4 => ?_)
    ·replace h4 : ((i : Nat) : Int) < ((List.length x0.2.2 : Nat) : Int) := of_decide_eq_true h4
     refine wp_skip (then_normal (wp_seq (wp_block (wp_seq ?_))))
     refine at_regq [] { ts := [1, 2, 3, 6, 7, 8, 9, 40], os := [1, 2, 3, 4, 5] } [(0 : Int) ≤ ((i : Nat) : Int) ∧ ((i : Nat) : Int) < ((List.length x0.2.2 : Nat) : Int), True] gamOK hT h (by kernel_rfl) ⟨(by refine ⟨?_, ?_⟩ <;> (first | omega | (simp only [lsA]; omega) | (simp <;> omega))), trivial, trivial⟩ fun a w h => then_normal ?_
     refine at_test (!(isEl (x0.2.2.getD i 0))) h (by kernel_rfl) (fun h5 => ?_) (fun h5 => ?_)
     ·replace h5 : (isEl (x0.2.2.getD i 0)) = false := notT h5
      refine wp_seq ?_
      refine at_regq [] { ts := [1, 2, 3, 6, 7, 8, 9], os := [1, 2, 3, 4, 5] } [] gamOK hT h (by kernel_rfl) trivial fun a w h => then_normal (wp_ret (in_ret (then_ret ?_)))
      have hs6 : (List.all x0.2.2 isEl) = false := by exact all_at (z := 0) (i := i) (by omega) (by first | assumption | (simp_all; done))
      refine then_ret (in_ret (then_ret ?_))
      exact at_return (x0, (false, ())) [] h (by kernel_rfl) trivial (congrArg (fun z => (z.1, z.2, ())) (show ((x0, false)) = pollute x0 x1 x2 from by first | rfl | (unfold pollute; rw [if_neg h1, if_neg h2, if_neg h3, if_neg (neT hs6)])))
     ·replace h5 : (isEl (x0.2.2.getD i 0)) = true := notF h5
      have hvh5 := isEl_t h5
      refine wp_skip (in_normal (then_normal ?_))
      refine at_regq [{}, { nw := true }] { ts := [1, 2, 3, 6, 7, 8, 9], os := [1, 2, 3, 4, 5] } [I64 (((i : Nat) : Int) + 1)] gamOK hT h (by kernel_rfl) ⟨⟨by first | omega | (simp only [lsA]; omega) | (simp <;> omega), by first | omega | (simp only [lsA]; omega) | (simp <;> omega)⟩, trivial⟩ fun a w h => ?_
      replace h := at_out (σ' := ⟨[(1, aI x1), (2, aI x2), (3, aP 1 0), (6, aP 2 0), (7, aB false), (8, aP 5 0), (9, aI (((i : Nat) : Int) + 1))], [(1, oX 29 [cI x0.1, .ro (.int 3) x0.2.1, .ro (.int 3) x0.2.2]), (2, oX 29 [cI 0, cN, cN]), (3, oR (.int 3) x0.2.1), (4, oR (.int 3) x0.2.2), (5, oX 29 [cI x0.1, .sl 3, .sl 4])]⟩) { ts := [1, 2, 3, 6, 7, 8, 9], os := [1, 2, 3, 4, 5] } h (by kernel_rfl)
      exact ⟨i + 1, at_eq h (st_congr1 (fun (d0 : Int) => (⟨[(1, aI x1), (2, aI x2), (3, aP 1 0), (6, aP 2 0), (7, aB false), (8, aP 5 0), (9, aI d0)], [(1, oX 29 [cI x0.1, .ro (.int 3) x0.2.1, .ro (.int 3) x0.2.2]), (2, oX 29 [cI 0, cN, cN]), (3, oR (.int 3) x0.2.1), (4, oR (.int 3) x0.2.2), (5, oX 29 [cI x0.1, .sl 3, .sl 4])]⟩ : St)) (show (((i : Nat) : Int) + 1 : Int) = (((i + 1) : Nat) : Int) from by first | with_reducible rfl | (omega) | rfl)), (by exact ⟨by omega, allTo1_succ hok0.2 (by first | assumption | (simp_all; done))⟩), (by omega)⟩
    ·replace h4 : ¬ (((i : Nat) : Int) < ((List.length x0.2.2 : Nat) : Int)) := of_decide_eq_false h4
     refine wp_exit (then_exit ?_)
     have hs7 : (List.all x0.2.2 isEl) = true := by exact all_of (z := 0) (i := i) (by omega) hok0.2
     refine then_exit (in_hit (then_normal (wp_seq ?_)))
     refine at_regq [] { ts := [2, 3, 6, 7, 8, 10], os := [1, 2, 3, 4, 5] } [(((List.length x0.2.2 : Nat) : Int) : Int) ≠ 0] gamOK hT h (by kernel_rfl) ⟨(by first | omega | (simp only [lsA]; omega) | (simp <;> omega)), trivial⟩ fun a w h => then_normal (wp_seq ?_)
     refine at_anyq [{}, {}, {}, {}, {}, {}, {}, {}, {}, {}, {}, {}, {}] { ts := [6, 7, 8], os := [2, 3, 4, 5] } [(0 : Int) ≤ (Int.tmod x1 ((List.length x0.2.2 : Nat) : Int)) ∧ (Int.tmod x1 ((List.length x0.2.2 : Nat) : Int)) < ((List.length x0.2.2 : Nat) : Int), True, True, (0 : Int) ≤ (Int.tmod x1 ((List.length x0.2.2 : Nat) : Int)) ∧ (Int.tmod x1 ((List.length x0.2.2 : Nat) : Int)) < ((List.length x0.2.2 : Nat) : Int), ((Int.tmod x1 ((List.length x0.2.2 : Nat) : Int))).toNat < List.length x0.2.2] gamOK hT mixed h (by kernel_rfl) ⟨(by refine ⟨?_, ?_⟩ <;> ((have hA0 := tmod_v x1 ((List.length x0.2.2 : Nat) : Int); first | omega | (simp only [lsA]; omega) | (simp <;> omega)))), trivial, trivial, (by refine ⟨?_, ?_⟩ <;> ((have hA0 := tmod_v x1 ((List.length x0.2.2 : Nat) : Int); first | omega | (simp only [lsA]; omega) | (simp <;> omega)))), (by (have hA0 := tmod_v x1 ((List.length x0.2.2 : Nat) : Int); first | omega | (simp only [lsA]; omega) | (simp <;> omega))), trivial⟩ fun a w h => then_normal (wp_seq ?_)
     refine at_regq [] { ts := [6, 7], os := [2, 3, 4] } [] gamOK hT h (by kernel_rfl) trivial fun a w h => then_normal (wp_ret ?_)
     exact at_return ((x0.1, (x0.2.1, (List.set x0.2.2 (((Int.tmod x1 ((List.length x0.2.2 : Nat) : Int))).toNat) (addF (x0.2.2.getD (((Int.tmod x1 ((List.length x0.2.2 : Nat) : Int))).toNat) 0) (modF x2 1019))))), (true, ())) [] h (by kernel_rfl) trivial (congrArg (fun z => (z.1, z.2, ())) (show (((x0.1, (x0.2.1, (List.set x0.2.2 (((Int.tmod x1 ((List.length x0.2.2 : Nat) : Int))).toNat) (addF (x0.2.2.getD (((Int.tmod x1 ((List.length x0.2.2 : Nat) : Int))).toNat) 0) (modF x2 1019))))), true)) = pollute x0 x1 x2 from by first | rfl | (unfold pollute; rw [if_neg h1, if_neg h2, if_neg h3, if_pos hs7])))
theorem pollute_len (p : T29) (i d : Int) : List.length (pollute p i d).1.2.1 = List.length p.2.1 ∧ List.length (pollute p i d).1.2.2 = List.length p.2.2 := by
 unfold pollute; (repeat' split) <;> simp

abbrev Q_impl_PolluteComponent := (fun (x0 : T29) (x1 : Int) (x2 : Int) => Sh.fit s29 x0)
def S_impl_PolluteComponent : Sum := { fid := 21, dom := [s29, (.int 3), (.int 3)], cod := [s29, (.bool 4)], dp := true, fz := false, pre := fun x => Q_impl_PolluteComponent x.1 x.2.1 x.2.2.1, g := fun x => ((pollute x.1 x.2.1 x.2.2.1).1, ((pollute x.1 x.2.1 x.2.2.1).2, ())) }
def S_impl_PolluteComponent_tab : List (Nat × Sum) := [(20, S__impl_CodedPacket_clone), (32, S_impl_Mod), (100002, S_slices_ContainsFunc_S_int_int__PolluteComponent_1), (36, S_impl_AddField)]
theorem S_impl_PolluteComponent_ok : FnOK Tryd.prog 21 S_impl_PolluteComponent := by
 refine at_enter 48 (fun x => ⟨[(0, aG [cI x.1.1, .ro (.int 3) x.1.2.1, .ro (.int 3) x.1.2.2]), (1, aI x.2.1), (2, aI x.2.2.1)], []⟩) Tryd.func21 rfl (by kernel_rfl) (fun x => rfl) ?_
 rintro w0 Z0 ⟨x0, x1, x2, u⟩ a w
 revert x0 x1 x2
 intro (x0 : T29) (x1 : Int) (x2 : Int) hpre hlens h
 replace hpre : Q_impl_PolluteComponent x0 x1 x2 := hpre
 have hT : TabOK Tryd.prog w0 [] S_impl_PolluteComponent_tab := (.cons S__impl_CodedPacket_clone_ok (.cons S_impl_Mod_ok (.cons S_slices_ContainsFunc_S_int_int__PolluteComponent_1_ok (.cons S_impl_AddField_ok .nil))))
 have hf0 : Sh.fit s29 x0 := hpre
 have hn0_1 : List.length x0.2.1 ≤ 1073741824 := hf0.2.1.1
 have hn0_2 : List.length x0.2.2 ≤ 1073741824 := hf0.2.2.1
 refine wp_seq ?_
 refine at_regq [{ ids := [1] }, { ids := [2] }] { ts := [1, 2, 3, 6, 7], os := [1, 2] } [] gamOK hT h (by kernel_rfl) trivial fun a w h => then_normal (wp_seq ?_)
 refine at_regq [{}, { ids := [3, 4] }, { ids := [5] }] { ts := [1, 2, 3, 6, 7, 8], os := [1, 2, 3, 4, 5] } [Q__impl_CodedPacket_clone x0] gamOK hT h (by kernel_rfl) ⟨(by exact hf0), trivial⟩ fun a w h => then_normal (wp_seq ?_)
 refine at_regq [] { ts := [1, 2, 3, 6, 7, 8], os := [1, 2, 3, 4, 5] } [True] gamOK hT h (by kernel_rfl) ⟨trivial, trivial⟩ fun a w h => then_normal (wp_seq (wp_seq ?_))
 by_cases h1 : ((List.length x0.2.2 : Nat) : Int) = 0
 ·refine at_regq [{}, {}, {}, { hint := some (aB true) }] { ts := [1, 2, 3, 6, 7, 8, 29], os := [1, 2, 3, 4, 5] } [(AV.p (.c (.v (.bool (decide (((List.length x0.2.2 : Nat) : Int) = 0))))) = AV.p (.c (.v (.bool true))))] gamOK hT h (by kernel_rfl) ⟨hint_bool (decide_eq_true h1), trivial⟩ fun a w h => then_normal ?_
  refine at_test true h (by kernel_rfl) (fun hh => ?_) (fun hh => nomatch hh)
  refine wp_seq ?_
  refine at_regq [] { ts := [1, 2, 3, 6, 7, 8], os := [1, 2, 3, 4, 5] } [] gamOK hT h (by kernel_rfl) trivial fun a w h => then_normal (wp_ret (then_ret ?_))
  exact at_return (x0, (false, ())) [] h (by kernel_rfl) trivial (congrArg (fun z => (z.1, z.2, ())) (show ((x0, false)) = pollute x0 x1 x2 from by first | rfl | (unfold pollute; rw [if_pos h1]; done) | (unfold pollute; (repeat (first | rfl | split)) <;> (first | rfl | omega | (simp_all [-List.all_eq_true, -List.any_eq_true, -List.all_eq_false, -List.any_eq_false, D_slices_ContainsFunc_S_int_int__PolluteComponent_1, any_not]; done) | (simp_all [-List.all_eq_true, -List.any_eq_true, -List.all_eq_false, -List.any_eq_false, D_slices_ContainsFunc_S_int_int__PolluteComponent_1, any_not]; omega) | (exfalso; simp_all [-List.all_eq_true, -List.any_eq_true, -List.all_eq_false, -List.any_eq_false, D_slices_ContainsFunc_S_int_int__PolluteComponent_1, any_not]; omega)))))
 ·rcases Bool.eq_false_or_eq_true ((D_slices_ContainsFunc_S_int_int__PolluteComponent_1 x0.2.2 ())) with h2 | h2
  ·refine at_regq [{}, {}, {}, { hint := some (aB false) }, {}, {}, {}, { hint := some (aB true), key := some 100002 }] { ts := [1, 2, 3, 6, 7, 8, 29], os := [1, 2, 3, 4, 5] } [(AV.p (.c (.v (.bool (decide (((List.length x0.2.2 : Nat) : Int) = 0))))) = AV.p (.c (.v (.bool false)))), True, (AV.p (.c (.v (.bool ((D_slices_ContainsFunc_S_int_int__PolluteComponent_1 x0.2.2 ()))))) = AV.p (.c (.v (.bool true))))] gamOK hT h (by kernel_rfl) ⟨hint_bool (decide_eq_false h1), trivial, hint_bool (h2), trivial⟩ fun a w h => then_normal ?_
   refine at_test true h (by kernel_rfl) (fun hh => ?_) (fun hh => nomatch hh)
   refine wp_seq ?_
   refine at_regq [] { ts := [1, 2, 3, 6, 7, 8], os := [1, 2, 3, 4, 5] } [] gamOK hT h (by kernel_rfl) trivial fun a w h => then_normal (wp_ret (then_ret ?_))
   exact at_return (x0, (false, ())) [] h (by kernel_rfl) trivial (congrArg (fun z => (z.1, z.2, ())) (show ((x0, false)) = pollute x0 x1 x2 from by first | rfl | (unfold pollute; rw [if_neg h1, if_pos h2]; done) | (unfold pollute; (repeat (first | rfl | split)) <;> (first | rfl | omega | (simp_all [-List.all_eq_true, -List.any_eq_true, -List.all_eq_false, -List.any_eq_false, D_slices_ContainsFunc_S_int_int__PolluteComponent_1, any_not]; done) | (simp_all [-List.all_eq_true, -List.any_eq_true, -List.all_eq_false, -List.any_eq_false, D_slices_ContainsFunc_S_int_int__PolluteComponent_1, any_not]; omega) | (exfalso; simp_all [-List.all_eq_true, -List.any_eq_true, -List.all_eq_false, -List.any_eq_false, D_slices_ContainsFunc_S_int_int__PolluteComponent_1, any_not]; omega)))))
  ·by_cases h3 : x1 < 0
   ·refine at_regq [{}, {}, {}, { hint := some (aB false) }, {}, {}, {}, { hint := some (aB false), key := some 100002 }, {}, {}, {}, { hint := some (aB true) }] { ts := [1, 2, 3, 6, 7, 8, 29], os := [1, 2, 3, 4, 5] } [(AV.p (.c (.v (.bool (decide (((List.length x0.2.2 : Nat) : Int) = 0))))) = AV.p (.c (.v (.bool false)))), True, (AV.p (.c (.v (.bool ((D_slices_ContainsFunc_S_int_int__PolluteComponent_1 x0.2.2 ()))))) = AV.p (.c (.v (.bool false)))), (AV.p (.c (.v (.bool (decide (x1 < 0))))) = AV.p (.c (.v (.bool true))))] gamOK hT h (by kernel_rfl) ⟨hint_bool (decide_eq_false h1), trivial, hint_bool (h2), hint_bool (decide_eq_true h3), trivial⟩ fun a w h => then_normal ?_
    refine at_test true h (by kernel_rfl) (fun hh => ?_) (fun hh => nomatch hh)
    refine wp_seq ?_
    refine at_regq [] { ts := [1, 2, 3, 6, 7, 8], os := [1, 2, 3, 4, 5] } [] gamOK hT h (by kernel_rfl) trivial fun a w h => then_normal (wp_ret (then_ret ?_))
    exact at_return (x0, (false, ())) [] h (by kernel_rfl) trivial (congrArg (fun z => (z.1, z.2, ())) (show ((x0, false)) = pollute x0 x1 x2 from by first | rfl | (unfold pollute; rw [if_neg h1, if_neg (neT h2), if_pos h3]; done) | (unfold pollute; (repeat (first | rfl | split)) <;> (first | rfl | omega | (simp_all [-List.all_eq_true, -List.any_eq_true, -List.all_eq_false, -List.any_eq_false, D_slices_ContainsFunc_S_int_int__PolluteComponent_1, any_not]; done) | (simp_all [-List.all_eq_true, -List.any_eq_true, -List.all_eq_false, -List.any_eq_false, D_slices_ContainsFunc_S_int_int__PolluteComponent_1, any_not]; omega) | (exfalso; simp_all [-List.all_eq_true, -List.any_eq_true, -List.all_eq_false, -List.any_eq_false, D_slices_ContainsFunc_S_int_int__PolluteComponent_1, any_not]; omega)))))
   ·refine at_regq [{}, {}, {}, { hint := some (aB false) }, {}, {}, {}, { hint := some (aB false), key := some 100002 }, {}, {}, {}, { hint := some (aB false) }] { ts := [1, 2, 3, 6, 7, 8, 29], os := [1, 2, 3, 4, 5] } [(AV.p (.c (.v (.bool (decide (((List.length x0.2.2 : Nat) : Int) = 0))))) = AV.p (.c (.v (.bool false)))), True, (AV.p (.c (.v (.bool ((D_slices_ContainsFunc_S_int_int__PolluteComponent_1 x0.2.2 ()))))) = AV.p (.c (.v (.bool false)))), (AV.p (.c (.v (.bool (decide (x1 < 0))))) = AV.p (.c (.v (.bool false))))] gamOK hT h (by kernel_rfl) ⟨hint_bool (decide_eq_false h1), trivial, hint_bool (h2), hint_bool (decide_eq_false h3), trivial⟩ fun a w h => then_normal ?_
    refine at_test (decide ((modF x2 1019) = 0)) h (by kernel_rfl) (fun h4 => ?_) (fun h4 => ?_)
    ·replace h4 : (modF x2 1019) = 0 := of_decide_eq_true h4
     refine wp_seq ?_
     refine at_regq [] { ts := [1, 2, 3, 6, 7, 8], os := [1, 2, 3, 4, 5] } [] gamOK hT h (by kernel_rfl) trivial fun a w h => then_normal (wp_ret (then_ret ?_))
     exact at_return (x0, (false, ())) [] h (by kernel_rfl) trivial (congrArg (fun z => (z.1, z.2, ())) (show ((x0, false)) = pollute x0 x1 x2 from by first | rfl | (unfold pollute; rw [if_neg h1, if_neg (neT h2), if_neg h3, if_pos h4]; done) | (unfold pollute; (repeat (first | rfl | split)) <;> (first | rfl | omega | (simp_all [-List.all_eq_true, -List.any_eq_true, -List.all_eq_false, -List.any_eq_false, D_slices_ContainsFunc_S_int_int__PolluteComponent_1, any_not]; done) | (simp_all [-List.all_eq_true, -List.any_eq_true, -List.all_eq_false, -List.any_eq_false, D_slices_ContainsFunc_S_int_int__PolluteComponent_1, any_not]; omega) | (exfalso; simp_all [-List.all_eq_true, -List.any_eq_true, -List.all_eq_false, -List.any_eq_false, D_slices_ContainsFunc_S_int_int__PolluteComponent_1, any_not]; omega)))))
    ·replace h4 : ¬ ((modF x2 1019) = 0) := of_decide_eq_false h4
     refine wp_skip (then_normal (wp_seq ?_))
     refine at_regq [] { ts := [1, 2, 6, 7, 8], os := [2, 3, 4, 5] } [(((List.length x0.2.2 : Nat) : Int) : Int) ≠ 0] gamOK hT h (by kernel_rfl) ⟨(by first | omega | (simp only [lsA]; omega) | (simp <;> omega)), trivial⟩ fun a w h => then_normal (wp_seq ?_)
     refine at_anyq [{}, {}, {}, {}, {}, {}, {}, {}, {}, {}, {}, {}] { ts := [6, 7, 8], os := [2, 3, 4, 5] } [(0 : Int) ≤ (Int.tmod x1 ((List.length x0.2.2 : Nat) : Int)) ∧ (Int.tmod x1 ((List.length x0.2.2 : Nat) : Int)) < ((List.length x0.2.2 : Nat) : Int), ((Int.tmod x1 ((List.length x0.2.2 : Nat) : Int))).toNat < List.length x0.2.2, True, (0 : Int) ≤ (Int.tmod x1 ((List.length x0.2.2 : Nat) : Int)) ∧ (Int.tmod x1 ((List.length x0.2.2 : Nat) : Int)) < ((List.length x0.2.2 : Nat) : Int), ((Int.tmod x1 ((List.length x0.2.2 : Nat) : Int))).toNat < List.length x0.2.2] gamOK hT mixed h (by kernel_rfl) ⟨(by refine ⟨?_, ?_⟩ <;> ((have hA0 := tmod_v x1 ((List.length x0.2.2 : Nat) : Int); first | omega | (simp only [lsA]; omega) | (simp <;> omega)))), (by (have hA0 := tmod_v x1 ((List.length x0.2.2 : Nat) : Int); first | omega | (simp only [lsA]; omega) | (simp <;> omega))), trivial, (by refine ⟨?_, ?_⟩ <;> ((have hA0 := tmod_v x1 ((List.length x0.2.2 : Nat) : Int); first | omega | (simp only [lsA]; omega) | (simp <;> omega)))), (by (have hA0 := tmod_v x1 ((List.length x0.2.2 : Nat) : Int); first | omega | (simp only [lsA]; omega) | (simp <;> omega))), trivial⟩ fun a w h => then_normal (wp_seq ?_)
     refine at_regq [] { ts := [6, 7], os := [2, 3, 4] } [] gamOK hT h (by kernel_rfl) trivial fun a w h => then_normal (wp_ret ?_)
     exact at_return ((x0.1, (x0.2.1, (List.set x0.2.2 (((Int.tmod x1 ((List.length x0.2.2 : Nat) : Int))).toNat) (addF (x0.2.2.getD (((Int.tmod x1 ((List.length x0.2.2 : Nat) : Int))).toNat) 0) (modF x2 1019))))), (true, ())) [] h (by kernel_rfl) trivial (congrArg (fun z => (z.1, z.2, ())) (show (((x0.1, (x0.2.1, (List.set x0.2.2 (((Int.tmod x1 ((List.length x0.2.2 : Nat) : Int))).toNat) (addF (x0.2.2.getD (((Int.tmod x1 ((List.length x0.2.2 : Nat) : Int))).toNat) 0) (modF x2 1019))))), true)) = pollute x0 x1 x2 from by first | rfl | (unfold pollute; rw [if_neg h1, if_neg (neT h2), if_neg h3, if_neg h4]; done) | (unfold pollute; (repeat (first | rfl | split)) <;> (first | rfl | omega | (simp_all [-List.all_eq_true, -List.any_eq_true, -List.all_eq_false, -List.any_eq_false, D_slices_ContainsFunc_S_int_int__PolluteComponent_1, any_not]; done) | (simp_all [-List.all_eq_true, -List.any_eq_true, -List.all_eq_false, -List.any_eq_false, D_slices_ContainsFunc_S_int_int__PolluteComponent_1, any_not]; omega) | (exfalso; simp_all [-List.all_eq_true, -List.any_eq_true, -List.all_eq_false, -List.any_eq_false, D_slices_ContainsFunc_S_int_int__PolluteComponent_1, any_not]; omega)))))

def pKey (_ : Int) (l : List Int) : Prop := l.length ≤ 4294967296
def hashS (d v : Int) : Int := (d * 1000003 + modF v 2147483647 + 13).tmod 2147483647
def hashF (l : List Int) : Int := l.foldl hashS 11
def keyed (k : Int) (l : List Int) : Int := hashF ([k] ++ l ++ [k])
theorem modF_bd (v : Int) : 0 ≤ modF v 2147483647 ∧ modF v 2147483647 < 2147483647 := by
 unfold modF
 rw [if_pos (by decide)]
 have h1 := (tmod_f v 2147483647 (by decide)).1
 have h2 := tmod_f (v.tmod 2147483647 + 2147483647) 2147483647 (by decide)
 omega
theorem hashS_bd {d : Int} (v : Int) (h : 0 ≤ d ∧ d < 2147483647) : 0 ≤ hashS d v ∧ hashS d v < 2147483647 := by
 unfold hashS
 have h1 := modF_bd v
 have h2 := tmod_f (d * 1000003 + modF v 2147483647 + 13) 2147483647 (by decide)
 omega
theorem hashTo_bd (l : List Int) : ∀ (d : Int), (0 ≤ d ∧ d < 2147483647) → 0 ≤ l.foldl hashS d ∧ l.foldl hashS d < 2147483647 := by
 induction l with
 | nil => intro d h; exact h
 | cons v l ih => intro d h; exact ih _ (hashS_bd v h)
theorem hash_bd (l : List Int) (i : Nat) : 0 ≤ foldTo hashS 11 l i ∧ foldTo hashS 11 l i < 2147483647 := hashTo_bd _ _ (by decide)
theorem hashF_bd (l : List Int) : 0 ≤ hashF l ∧ hashF l < 2147483647 := hashTo_bd _ _ (by decide)
theorem keyed_bd (k : Int) (l : List Int) : 0 ≤ keyed k l ∧ keyed k l < 2147483647 := hashF_bd _
def S_spec_Hash : Sum := { fid := 69, dom := [s27], cod := [(.int 3)], dp := true, fz := false, pre := fun x => True, g := fun x => ((hashF x.1), ()) }
def S_spec_Hash_tab : List (Nat × Sum) := [(37, S_spec_Mod)]
theorem S_spec_Hash_ok : FnOK Tryd.prog 69 S_spec_Hash := by
 refine at_enter 22 (fun x => ⟨[(0, aF (.int 3) x.1)], []⟩) Tryd.func69 rfl (by kernel_rfl) (fun x => rfl) ?_
 rintro w0 Z0 ⟨x0, u⟩ a w
 revert x0
 intro (x0 : (List Int)) hpre hlens h
 have hl1 : List.length x0 ≤ 9223372036854775807 := hlens.1.1
 have hT : TabOK Tryd.prog w0 [] S_spec_Hash_tab := (.cons S_spec_Mod_ok .nil)
 refine wp_seq ?_
 refine at_regq [] { ts := [0, 2], os := [] } [] gamOK hT h (by kernel_rfl) trivial fun a w h => then_normal (wp_seq ?_)
 refine at_regq [] { ts := [0, 2, 3], os := [] } [] gamOK hT h (by kernel_rfl) trivial fun a w h => then_normal (wp_seq (wp_seq ?_))
 refine at_regq [] { ts := [0, 2, 3, 4], os := [] } [] gamOK hT h (by kernel_rfl) trivial fun a w h => then_normal (wp_block ?_)
 replace h := at_out (σ' := ⟨[(0, aF (.int 3) x0), (2, aI 0), (3, aI 11), (4, aI 0)], []⟩) { ts := [0, 2, 3, 4], os := [] } h (by kernel_rfl)
 refine at_loop (fun i : Nat => (⟨[(0, aF (.int 3) x0), (2, aI 0), (3, aI (foldTo hashS 11 x0 i)), (4, aI ((i : Nat) : Int))], []⟩ : St)) (fun i => i ≤ List.length x0) (fun i => List.length x0 - i) (0) h (st_congr2 (fun (d0 : Int) (d1 : Int) => (⟨[(0, aF (.int 3) x0), (2, aI 0), (3, aI d0), (4, aI d1)], []⟩ : St)) (show (11 : Int) = (foldTo hashS 11 x0 (0)) from by first | with_reducible rfl | (first | rfl | simp) | rfl) (show (0 : Int) = (((0) : Nat) : Int) from by first | with_reducible rfl | (first | rfl | simp) | rfl)) (by omega) ?_
 intro i a w hok0 h
 have hbd := hash_bd x0 i
 refine wp_seq (wp_seq ?_)
 refine at_regq [] { ts := [0, 2, 3, 4, 8], os := [] } [] gamOK hT h (by kernel_rfl) trivial fun a w h => then_normal ?_
 refine at_test (decide (((i : Nat) : Int) < ((List.length x0 : Nat) : Int))) h (by kernel_rfl) (fun h1 => ?_) (fun h1 => ?_)
 ·replace h1 : ((i : Nat) : Int) < ((List.length x0 : Nat) : Int) := of_decide_eq_true h1
  have hmb := modF_bd (x0.getD i 0)
  refine wp_skip (then_normal (wp_seq (wp_block ?_)))
  refine at_regq [{}, { nw := true }, {}, {}, {}, {}, {}, { nw := true }, { nw := true }] { ts := [0, 2, 3, 4], os := [] } [I64 ((foldTo hashS 11 x0 i) * 1000003), (0 : Int) ≤ ((i : Nat) : Int) ∧ ((i : Nat) : Int) < ((List.length x0 : Nat) : Int), True, I64 (((foldTo hashS 11 x0 i) * 1000003) + (modF (x0.getD i 0) 2147483647)), I64 ((((foldTo hashS 11 x0 i) * 1000003) + (modF (x0.getD i 0) 2147483647)) + 13), (2147483647 : Int) ≠ 0] gamOK hT h (by kernel_rfl) ⟨⟨by first | omega | (simp only [lsA]; omega) | (simp <;> omega), by first | omega | (simp only [lsA]; omega) | (simp <;> omega)⟩, (by refine ⟨?_, ?_⟩ <;> (first | omega | (simp only [lsA]; omega) | (simp <;> omega))), trivial, ⟨by first | omega | (simp only [lsA]; omega) | (simp <;> omega), by first | omega | (simp only [lsA]; omega) | (simp <;> omega)⟩, ⟨by first | omega | (simp only [lsA]; omega) | (simp <;> omega), by first | omega | (simp only [lsA]; omega) | (simp <;> omega)⟩, (by first | omega | (simp only [lsA]; omega) | (simp <;> omega)), trivial⟩ fun a w h => in_normal (then_normal ?_)
  refine at_regq [{}, { nw := true }] { ts := [0, 2, 3, 4], os := [] } [I64 (((i : Nat) : Int) + 1)] gamOK hT h (by kernel_rfl) ⟨⟨by first | omega | (simp only [lsA]; omega) | (simp <;> omega), by first | omega | (simp only [lsA]; omega) | (simp <;> omega)⟩, trivial⟩ fun a w h => ?_
  replace h := at_out (σ' := ⟨[(0, aF (.int 3) x0), (2, aI 0), (3, aI (Int.tmod ((((foldTo hashS 11 x0 i) * 1000003) + (modF (x0.getD i 0) 2147483647)) + 13) 2147483647)), (4, aI (((i : Nat) : Int) + 1))], []⟩) { ts := [0, 2, 3, 4], os := [] } h (by kernel_rfl)
  exact ⟨i + 1, at_eq h (st_congr2 (fun (d0 : Int) (d1 : Int) => (⟨[(0, aF (.int 3) x0), (2, aI 0), (3, aI d0), (4, aI d1)], []⟩ : St)) (show ((Int.tmod ((((foldTo hashS 11 x0 i) * 1000003) + (modF (x0.getD i 0) 2147483647)) + 13) 2147483647) : Int) = (foldTo hashS 11 x0 (i + 1)) from by first | with_reducible rfl | (rw [foldTo_succ 0 (by omega)]; first | rfl | (simp_all; done)) | rfl) (show (((i : Nat) : Int) + 1 : Int) = (((i + 1) : Nat) : Int) from by first | with_reducible rfl | (omega) | rfl)), (by omega), (by omega)⟩
 ·replace h1 : ¬ (((i : Nat) : Int) < ((List.length x0 : Nat) : Int)) := of_decide_eq_false h1
  refine wp_exit (then_exit ?_)
  replace h := at_out (σ' := ⟨[(2, aI 0), (3, aI (foldTo hashS 11 x0 i))], []⟩) { ts := [2, 3], os := [] } h (by kernel_rfl)
  replace h := at_eq (σ' := ⟨[(2, aI 0), (3, aI (List.foldl hashS 11 x0))], []⟩) h (st_congr1 (fun (d0 : Int) => (⟨[(2, aI 0), (3, aI d0)], []⟩ : St)) (show ((foldTo hashS 11 x0 i) : Int) = (List.foldl hashS 11 x0) from by first | with_reducible rfl | (rw [foldTo_all (by omega)]) | rfl))
  refine then_exit (in_hit (then_normal (wp_seq ?_)))
  refine at_regq [] { ts := [2], os := [] } [] gamOK hT h (by kernel_rfl) trivial fun a w h => then_normal (wp_ret ?_)
  exact at_return ((List.foldl hashS 11 x0), ()) [] h (by kernel_rfl) trivial (congrArg (fun z => (z, ())) (show ((List.foldl hashS 11 x0)) = hashF x0 from by rfl))

def S_spec_KeyedHash : Sum := { fid := 66, dom := [(.int 3), s27], cod := [(.int 3)], dp := true, fz := false, pre := fun x => pKey x.1 x.2.1, g := fun x => ((keyed x.1 x.2.1), ()) }
def S_spec_KeyedHash_tab : List (Nat × Sum) := [(69, S_spec_Hash)]
theorem S_spec_KeyedHash_ok : FnOK Tryd.prog 66 S_spec_KeyedHash := by
 refine at_enter 13 (fun x => ⟨[(0, aI x.1), (1, aF (.int 3) x.2.1)], []⟩) Tryd.func66 rfl (by kernel_rfl) (fun x => rfl) ?_
 rintro w0 Z0 ⟨x0, x1, u⟩ a w
 revert x0 x1
 intro (x0 : Int) (x1 : (List Int)) hpre hlens h
 replace hpre : pKey x0 x1 := hpre
 have hl1 : List.length x1 ≤ 9223372036854775807 := hlens.2.1.1
 have hT : TabOK Tryd.prog w0 [] S_spec_KeyedHash_tab := (.cons S_spec_Hash_ok .nil)
 have hp : List.length x1 ≤ 4294967296 := hpre
 refine wp_seq ?_
 refine at_regq [] { ts := [0, 1, 4], os := [] } [] gamOK hT h (by kernel_rfl) trivial fun a w h => then_normal (wp_seq ?_)
 refine at_regq [{}, { ids := [1] }, {}, { ids := [2] }, {}, { ids := [3] }, { ids := [4] }] { ts := [4], os := [] } [(List.length ([x0]) + List.length x1) * 8 ≤ 140737488355328, (List.length (([x0]) ++ x1) + List.length ([x0])) * 8 ≤ 140737488355328, True] gamOK hT h (by kernel_rfl) ⟨(by first | omega | (simp only [lsA]; omega) | (simp <;> omega)), (by first | omega | (simp only [lsA]; omega) | (simp <;> omega)), trivial, trivial⟩ fun a w h => then_normal (wp_ret ?_)
 exact at_return ((hashF ((([x0]) ++ x1) ++ ([x0]))), ()) [] h (by kernel_rfl) trivial (congrArg (fun z => (z, ())) (show ((hashF ((([x0]) ++ x1) ++ ([x0])))) = keyed x0 x1 from by rfl))

def D_spec_Max (x0 : Int) (x1 : Int) : Int := (if x1 > x0 then x1 else x0)
def S_spec_Max : Sum := { fid := 22, dom := [(.int 3), (.int 3)], cod := [(.int 3)], dp := true, fz := false, pre := fun x => True, g := fun x => ((D_spec_Max x.1 x.2.1), ()) }
def S_spec_Max_tab : List (Nat × Sum) := []
theorem S_spec_Max_ok : FnOK Tryd.prog 22 S_spec_Max := by
 refine at_enter 10 (fun x => ⟨[(0, aI x.1), (1, aI x.2.1)], []⟩) Tryd.func22 rfl (by kernel_rfl) (fun x => rfl) ?_
 rintro w0 Z0 ⟨x0, x1, u⟩ a w
 revert x0 x1
 intro (x0 : Int) (x1 : Int) hpre hlens h
 have hT : TabOK Tryd.prog w0 [] S_spec_Max_tab := .nil
 refine wp_seq ?_
 refine at_regq [] { ts := [0, 1, 4], os := [] } [] gamOK hT h (by kernel_rfl) trivial fun a w h => then_normal (wp_seq (wp_seq ?_))
 refine at_regq [] { ts := [0, 1, 4, 7], os := [] } [] gamOK hT h (by kernel_rfl) trivial fun a w h => then_normal ?_
 refine at_test (decide (x1 > x0)) h (by kernel_rfl) (fun h1 => ?_) (fun h1 => ?_)
 ·replace h1 : x1 > x0 := of_decide_eq_true h1
  refine wp_seq ?_
  refine at_regq [] { ts := [0, 4], os := [] } [] gamOK hT h (by kernel_rfl) trivial fun a w h => then_normal (wp_ret (then_ret ?_))
  exact at_return (x1, ()) [] h (by kernel_rfl) trivial (congrArg (fun z => (z, ())) (show (x1) = D_spec_Max x0 x1 from by first | rfl | (unfold D_spec_Max; rw [if_pos h1])))
 ·replace h1 : ¬ (x1 > x0) := of_decide_eq_false h1
  refine wp_skip (then_normal (wp_seq ?_))
  refine at_regq [] { ts := [4], os := [] } [] gamOK hT h (by kernel_rfl) trivial fun a w h => then_normal (wp_ret ?_)
  exact at_return (x0, ()) [] h (by kernel_rfl) trivial (congrArg (fun z => (z, ())) (show (x0) = D_spec_Max x0 x1 from by first | rfl | (unfold D_spec_Max; rw [if_neg h1])))

def bsF (p : Nat → Bool) (i j : Nat) : Nat := if h : i < j then (if p ((i + j) / 2) = true then bsF p ((i + j) / 2 + 1) j else bsF p i ((i + j) / 2)) else i
termination_by j - i
theorem bsF_up {p : Nat → Bool} {i j : Nat} (h : i < j) (hp : p ((i + j) / 2) = true) : bsF p i j = bsF p ((i + j) / 2 + 1) j := by rw [bsF, dif_pos h, if_pos hp]
theorem bsF_down {p : Nat → Bool} {i j : Nat} (h : i < j) (hp : p ((i + j) / 2) = false) : bsF p i j = bsF p i ((i + j) / 2) := by rw [bsF, dif_pos h, if_neg (by rw [hp]; decide)]
theorem bsF_end {p : Nat → Bool} {i j : Nat} (h : ¬ i < j) : bsF p i j = i := by rw [bsF, dif_neg h]
theorem bsF_bd (p : Nat → Bool) : ∀ (d i j : Nat), j - i ≤ d → i ≤ j → i ≤ bsF p i j ∧ bsF p i j ≤ j
 | 0, i, j, h, hij => by rw [bsF_end (by omega)]; omega
 | d + 1, i, j, h, hij => by
  by_cases hl : i < j
  ·cases hp : p ((i + j) / 2) with
   | true => rw [bsF_up hl hp]; have := bsF_bd p d ((i + j) / 2 + 1) j (by omega) (by omega); omega
   | false => rw [bsF_down hl hp]; have := bsF_bd p d i ((i + j) / 2) (by omega) (by omega); omega
  ·rw [bsF_end hl]; omega
theorem bsF_first {p : Nat → Bool} {n : Nat} (hm : ∀ a b, a ≤ b → b < n → p b = true → p a = true) : ∀ (d i j : Nat), j - i ≤ d → i ≤ j → j ≤ n → (∀ a, a < i → p a = true) → (∀ a, j ≤ a → a < n → p a = false) →
  (∀ a, a < bsF p i j → p a = true) ∧ ∀ a, bsF p i j ≤ a → a < n → p a = false
 | 0, i, j, h, hij, hjn, h1, h2 => by rw [bsF_end (by omega)]; exact ⟨h1, fun a ha hn => h2 a (by omega) hn⟩
 | d + 1, i, j, h, hij, hjn, h1, h2 => by
  by_cases hl : i < j
  ·cases hp : p ((i + j) / 2) with
   | true => rw [bsF_up hl hp]; exact bsF_first hm d _ j (by omega) (by omega) hjn (fun a ha => hm a _ (by omega) (by omega) hp) h2
   | false =>
    rw [bsF_down hl hp]
    refine bsF_first hm d i _ (by omega) (by omega) (by omega) h1 fun a ha hn => ?_
    cases hpa : p a with
    | false => rfl
    | true => rw [hm _ a ha hn hpa] at hp; cases hp
  ·rw [bsF_end hl]; exact ⟨h1, fun a ha hn => h2 a (by omega) hn⟩
theorem shr1 {n : Nat} : Int.fdiv (n : Int) (2 ^ (min (1 : Int).toNat (IntKind.i64).bits)) = ((n / 2 : Nat) : Int) := by
 have e2 : (2 : Int) ^ (min (1 : Int).toNat (IntKind.i64).bits) = 2 := by decide
 rw [e2, Int.fdiv_eq_ediv_of_nonneg _ (by omega)]; omega
theorem and1 {n : Nat} (h : n ≤ 4611686018427387904) : IntKind.i64.wrap ((BitVec.ofInt (IntKind.i64).bits (n : Int) &&& BitVec.ofInt (IntKind.i64).bits 1).toNat : Int) = ((n % 2 : Nat) : Int) := by
 have e : (BitVec.ofInt (IntKind.i64).bits (n : Int) &&& BitVec.ofInt (IntKind.i64).bits 1).toNat = n % 2 := by
  rw [BitVec.toNat_and]
  have h1 : (BitVec.ofInt (IntKind.i64).bits (n : Int)).toNat = n := by
   rw [BitVec.toNat_ofInt]
   simp [IntKind.bits]
   omega
  have h2 : (BitVec.ofInt (IntKind.i64).bits 1).toNat = 1 := by decide
  rw [h1, h2, Nat.and_one_is_mod]
 rw [e, IntKind.wrap_i64]; omega
theorem lead_idx : ∀ {xs : List Int}, idxF (fun e => !decide (e = 0)) xs = LA.leadS xs
 | [] => rfl
 | x :: l => by
  have ih := lead_idx (xs := l)
  simp only [idxF, LA.leadS, ih]
  by_cases h : x = 0
  ·rw [if_neg (show ¬ (!decide (x = 0)) = true by simp [h]), if_neg (show ¬ x ≠ 0 from fun e => e h)]
  ·rw [if_pos (show (!decide (x = 0)) = true by simp [h]), if_pos h]
def powP (a n m : Int) : Prop := (0 ≤ a ∧ a < m) ∧ (0 ≤ n ∧ n ≤ 4611686018427387904) ∧ 1 < m ∧ m ≤ 1048576
def powD (a n m : Int) : Int := LA.pmL m 1 a n.toNat
def powOK (x0 x1 x2 : Int) (q : Int × Int × Nat) : Prop := LA.pmL x2 q.1 q.2.1 q.2.2 = powD x0 x1 x2 ∧ (0 ≤ q.1 ∧ q.1 < x2) ∧ (0 ≤ q.2.1 ∧ q.2.1 < x2) ∧ q.2.2 ≤ 4611686018427387904
theorem powOK_odd {x0 x1 x2 : Int} {q : Int × Int × Nat} (h : powOK x0 x1 x2 q) (hm : 1 < x2) (h2 : q.2.2 % 2 = 1) : powOK x0 x1 x2 ((q.1 * q.2.1).tmod x2, (q.2.1 * q.2.1).tmod x2, q.2.2 / 2) := by
 obtain ⟨h0, ⟨h3, h4⟩, ⟨h5, h6⟩, h7⟩ := h
 exact ⟨by rw [← h0]; exact (LA.pmL_odd h2).symm, LA.tmod_lt (Int.mul_nonneg h3 h5) (by omega), LA.tmod_lt (Int.mul_nonneg h5 h5) (by omega), by dsimp only; omega⟩
theorem powOK_even {x0 x1 x2 : Int} {q : Int × Int × Nat} (h : powOK x0 x1 x2 q) (hm : 1 < x2) (h1 : q.2.2 ≠ 0) (h2 : q.2.2 % 2 = 0) : powOK x0 x1 x2 (q.1, (q.2.1 * q.2.1).tmod x2, q.2.2 / 2) := by
 obtain ⟨h0, ⟨h3, h4⟩, ⟨h5, h6⟩, h7⟩ := h
 exact ⟨by rw [← h0]; exact (LA.pmL_even h1 h2).symm, ⟨h3, h4⟩, LA.tmod_lt (Int.mul_nonneg h5 h5) (by omega), by dsimp only; omega⟩
def invF (x : Int) : Int := if isEl x = true then LA.invS x else 0
theorem invS_zero : LA.invS 0 = 0 := by
 have h := LA.pmL_bd (m := 1019) (by decide) 10 1017 1 0 (by decide) (by decide) (by decide) (by decide)
 have h2 := LA.pmL_c 10 1017 1 0 (by decide) (by decide) (by decide)
 have h3 : LA.c (LA.invS 0) = 0 := by unfold LA.invS; rw [h2]; decide +kernel
 exact (LA.c_ne ⟨h.1, by have := h.2; show LA.pmL 1019 1 0 1017 ≤ 1018; omega⟩).1 h3
theorem invF_bd (x : Int) : 0 ≤ invF x ∧ invF x ≤ 1018 := by
 unfold invF
 split
 ·rename_i h
  have hx := isEl_t h
  have := LA.pmL_bd (m := 1019) (by decide) 10 1017 1 x (by decide) (by decide) (by decide) hx.1
  unfold LA.invS; omega
 ·omega
theorem invF_el {x : Int} (h : 0 ≤ x ∧ x ≤ 1018) : invF x = LA.invS x := if_pos (inR_true h)
theorem elB {v : List Int} (h : ∀ x ∈ v, LA.El x) (j : Nat) : 0 ≤ v.getD j 0 ∧ v.getD j 0 ≤ 1018 := LA.VokB.at_ (n := v.length) ⟨rfl, h⟩ j
theorem validV_el {v : List Int} (h : List.all v isEl = true) : ∀ x ∈ v, LA.El x := fun x hx => isEl_t (List.all_eq_true.1 h x hx)
abbrev scF (k x : Int) : Int := (x * k).tmod 1019
theorem addS_take_le (a b : List Int) (k : Int) (i : Nat) : List.length (List.take i (LA.addS a b k)) ≤ List.length a := by simp [LA.addS]; omega
def S_spec_l4Pow : Sum := { fid := 74, dom := [(.int 3), (.int 3), (.int 3)], cod := [(.int 3)], dp := true, fz := false, pre := fun x => powP x.1 x.2.1 x.2.2.1, g := fun x => ((powD x.1 x.2.1 x.2.2.1), ()) }
def S_spec_l4Pow_tab : List (Nat × Sum) := []
theorem S_spec_l4Pow_ok : FnOK Tryd.prog 74 S_spec_l4Pow := by
 refine at_enter 26 (fun x => ⟨[(0, aI x.1), (1, aI x.2.1), (2, aI x.2.2.1)], []⟩) Tryd.func74 rfl (by kernel_rfl) (fun x => rfl) ?_
 rintro w0 Z0 ⟨x0, x1, x2, u⟩ a w
 revert x0 x1 x2
 intro (x0 : Int) (x1 : Int) (x2 : Int) hpre hlens h
 replace hpre : powP x0 x1 x2 := hpre
 have hT : TabOK Tryd.prog w0 [] S_spec_l4Pow_tab := .nil
 have hp : (0 ≤ x0 ∧ x0 < x2) ∧ (0 ≤ x1 ∧ x1 ≤ 4611686018427387904) ∧ 1 < x2 ∧ x2 ≤ 1048576 := hpre
 refine wp_seq ?_
 refine at_regq [] { ts := [0, 1, 2, 6], os := [] } [] gamOK hT h (by kernel_rfl) trivial fun a w h => then_normal (wp_seq ?_)
 refine at_regq [] { ts := [0, 1, 2, 6, 7], os := [] } [] gamOK hT h (by kernel_rfl) trivial fun a w h => then_normal (wp_seq (wp_block ?_))
 replace h := at_out (σ' := ⟨[(0, aI x0), (1, aI x1), (2, aI x2), (6, aI 0), (7, aI 1)], []⟩) { ts := [0, 1, 2, 6, 7], os := [] } h (by kernel_rfl)
 refine at_loop (fun q : (Int × Int × Nat) => (⟨[(0, aI q.2.1), (1, aI ((q.2.2 : Nat) : Int)), (2, aI x2), (6, aI 0), (7, aI q.1)], []⟩ : St)) (fun q => powOK x0 x1 x2 q) (fun q => q.2.2) ((1, x0, x1.toNat)) h (st_congr3 (fun (d0 : Int) (d1 : Int) (d2 : Int) => (⟨[(0, aI d1), (1, aI d2), (2, aI x2), (6, aI 0), (7, aI d0)], []⟩ : St)) (show (1 : Int) = ((1, x0, x1.toNat)).1 from by first | with_reducible rfl | (show x1 = ((x1.toNat : Nat) : Int); omega) | rfl) (show (x0 : Int) = ((1, x0, x1.toNat)).2.1 from by first | with_reducible rfl | (show x1 = ((x1.toNat : Nat) : Int); omega) | rfl) (show (x1 : Int) = ((((1, x0, x1.toNat)).2.2 : Nat) : Int) from by first | with_reducible rfl | (show x1 = ((x1.toNat : Nat) : Int); omega) | rfl)) (by exact ⟨rfl, ⟨(show (0 : Int) ≤ 1 by decide), by dsimp only; omega⟩, ⟨by dsimp only; omega, by dsimp only; omega⟩, by dsimp only; omega⟩) ?_
 intro q a w hok0 h
 have hq := hok0.2
 refine wp_seq (wp_seq ?_)
 refine at_regq [] { ts := [0, 1, 2, 6, 7, 9], os := [] } [] gamOK hT h (by kernel_rfl) trivial fun a w h => then_normal ?_
 refine at_test (decide (((q.2.2 : Nat) : Int) > 0)) h (by kernel_rfl) (fun h1 => ?_) (fun h1 => ?_)
 ·replace h1 : ((q.2.2 : Nat) : Int) > 0 := of_decide_eq_true h1
  refine wp_skip (then_normal (wp_block (wp_seq (wp_seq ?_))))
  refine at_regq [{}, { hint := some (aI ((q.2.2 % 2 : Nat) : Int)) }] { ts := [0, 1, 2, 6, 7, 12], os := [] } [(AV.p (.c (.v (.int .i64 (IntKind.i64.wrap ((BitVec.ofInt (IntKind.i64).bits ((q.2.2 : Nat) : Int) &&& BitVec.ofInt (IntKind.i64).bits 1).toNat : Int))))) = AV.p (.c (.v (.int .i64 (((q.2.2 % 2 : Nat) : Int))))))] gamOK hT h (by kernel_rfl) ⟨hint_int (by exact and1 (by omega)), trivial⟩ fun a w h => then_normal ?_
  refine at_test (decide (((q.2.2 % 2 : Nat) : Int) = 1)) h (by kernel_rfl) (fun h2 => ?_) (fun h2 => ?_)
  ·replace h2 : ((q.2.2 % 2 : Nat) : Int) = 1 := of_decide_eq_true h2
   refine at_regq [{}, {}, { nw := true }] { ts := [0, 1, 2, 6, 7], os := [] } [I64 (q.1 * q.2.1), (x2 : Int) ≠ 0] gamOK hT h (by kernel_rfl) ⟨⟨by (have hA0 := mul_f q.1 q.2.1; first | omega | (simp only [lsA]; omega) | (simp <;> omega)), by (have hA0 := mul_f q.1 q.2.1; first | omega | (simp only [lsA]; omega) | (simp <;> omega))⟩, (by first | omega | (simp only [lsA]; omega) | (simp <;> omega)), trivial⟩ fun a w h => then_normal (wp_seq ?_)
   refine at_regq [{}, {}, { nw := true }] { ts := [0, 1, 2, 6, 7], os := [] } [I64 (q.2.1 * q.2.1), (x2 : Int) ≠ 0] gamOK hT h (by kernel_rfl) ⟨⟨by (have hA0 := mul_f q.2.1 q.2.1; first | omega | (simp only [lsA]; omega) | (simp <;> omega)), by (have hA0 := mul_f q.2.1 q.2.1; first | omega | (simp only [lsA]; omega) | (simp <;> omega))⟩, (by first | omega | (simp only [lsA]; omega) | (simp <;> omega)), trivial⟩ fun a w h => then_normal ?_
   refine at_regq [{}, { hint := some (aI ((q.2.2 / 2 : Nat) : Int)) }] { ts := [0, 1, 2, 6, 7], os := [] } [(0 : Int) ≤ 1, (AV.p (.c (.v (.int .i64 ((Int.fdiv ((q.2.2 : Nat) : Int) (2 ^ (min (1 : Int).toNat (IntKind.i64).bits))))))) = AV.p (.c (.v (.int .i64 (((q.2.2 / 2 : Nat) : Int))))))] gamOK hT h (by kernel_rfl) ⟨(by first | omega | (simp only [lsA]; omega) | (simp <;> omega)), hint_int (by exact shr1), trivial⟩ fun a w h => in_normal ?_
   replace h := at_out (σ' := ⟨[(0, aI (Int.tmod (q.2.1 * q.2.1) x2)), (1, aI ((q.2.2 / 2 : Nat) : Int)), (2, aI x2), (6, aI 0), (7, aI (Int.tmod (q.1 * q.2.1) x2))], []⟩) { ts := [0, 1, 2, 6, 7], os := [] } h (by kernel_rfl)
   exact ⟨((q.1 * q.2.1).tmod x2, (q.2.1 * q.2.1).tmod x2, q.2.2 / 2), at_eq h (st_congr3 (fun (d0 : Int) (d1 : Int) (d2 : Int) => (⟨[(0, aI d1), (1, aI d2), (2, aI x2), (6, aI 0), (7, aI d0)], []⟩ : St)) (show ((Int.tmod (q.1 * q.2.1) x2) : Int) = (((q.1 * q.2.1).tmod x2, (q.2.1 * q.2.1).tmod x2, q.2.2 / 2)).1 from by first | with_reducible rfl | (rfl) | rfl) (show ((Int.tmod (q.2.1 * q.2.1) x2) : Int) = (((q.1 * q.2.1).tmod x2, (q.2.1 * q.2.1).tmod x2, q.2.2 / 2)).2.1 from by first | with_reducible rfl | (rfl) | rfl) (show (((q.2.2 / 2 : Nat) : Int) : Int) = (((((q.1 * q.2.1).tmod x2, (q.2.1 * q.2.1).tmod x2, q.2.2 / 2)).2.2 : Nat) : Int) from by first | with_reducible rfl | (rfl) | rfl)), (by first | exact powOK_odd hok0 (by omega) (by omega) | exact powOK_even hok0 (by omega) (by omega) (by omega)), (by dsimp only; omega)⟩
  ·replace h2 : ¬ (((q.2.2 % 2 : Nat) : Int) = 1) := of_decide_eq_false h2
   refine wp_skip (then_normal (wp_seq ?_))
   refine at_regq [{}, {}, { nw := true }] { ts := [0, 1, 2, 6, 7], os := [] } [I64 (q.2.1 * q.2.1), (x2 : Int) ≠ 0] gamOK hT h (by kernel_rfl) ⟨⟨by (have hA0 := mul_f q.2.1 q.2.1; first | omega | (simp only [lsA]; omega) | (simp <;> omega)), by (have hA0 := mul_f q.2.1 q.2.1; first | omega | (simp only [lsA]; omega) | (simp <;> omega))⟩, (by first | omega | (simp only [lsA]; omega) | (simp <;> omega)), trivial⟩ fun a w h => then_normal ?_
   refine at_regq [{}, { hint := some (aI ((q.2.2 / 2 : Nat) : Int)) }] { ts := [0, 1, 2, 6, 7], os := [] } [(0 : Int) ≤ 1, (AV.p (.c (.v (.int .i64 ((Int.fdiv ((q.2.2 : Nat) : Int) (2 ^ (min (1 : Int).toNat (IntKind.i64).bits))))))) = AV.p (.c (.v (.int .i64 (((q.2.2 / 2 : Nat) : Int))))))] gamOK hT h (by kernel_rfl) ⟨(by first | omega | (simp only [lsA]; omega) | (simp <;> omega)), hint_int (by exact shr1), trivial⟩ fun a w h => in_normal ?_
   replace h := at_out (σ' := ⟨[(0, aI (Int.tmod (q.2.1 * q.2.1) x2)), (1, aI ((q.2.2 / 2 : Nat) : Int)), (2, aI x2), (6, aI 0), (7, aI q.1)], []⟩) { ts := [0, 1, 2, 6, 7], os := [] } h (by kernel_rfl)
   exact ⟨(q.1, (q.2.1 * q.2.1).tmod x2, q.2.2 / 2), at_eq h (st_congr3 (fun (d0 : Int) (d1 : Int) (d2 : Int) => (⟨[(0, aI d1), (1, aI d2), (2, aI x2), (6, aI 0), (7, aI d0)], []⟩ : St)) (show (q.1 : Int) = ((q.1, (q.2.1 * q.2.1).tmod x2, q.2.2 / 2)).1 from by first | with_reducible rfl | (rfl) | rfl) (show ((Int.tmod (q.2.1 * q.2.1) x2) : Int) = ((q.1, (q.2.1 * q.2.1).tmod x2, q.2.2 / 2)).2.1 from by first | with_reducible rfl | (rfl) | rfl) (show (((q.2.2 / 2 : Nat) : Int) : Int) = ((((q.1, (q.2.1 * q.2.1).tmod x2, q.2.2 / 2)).2.2 : Nat) : Int) from by first | with_reducible rfl | (rfl) | rfl)), (by first | exact powOK_odd hok0 (by omega) (by omega) | exact powOK_even hok0 (by omega) (by omega) (by omega)), (by dsimp only; omega)⟩
 ·replace h1 : ¬ (((q.2.2 : Nat) : Int) > 0) := of_decide_eq_false h1
  refine wp_exit (then_exit (then_exit (in_hit (then_normal (wp_seq ?_)))))
  refine at_regq [] { ts := [6], os := [] } [] gamOK hT h (by kernel_rfl) trivial fun a w h => then_normal (wp_ret ?_)
  exact at_return (q.1, ()) [] h (by kernel_rfl) trivial (congrArg (fun z => (z, ())) (show (q.1) = powD x0 x1 x2 from by (have e := hok0.1; rw [show q.2.2 = 0 by omega, LA.pmL_zero] at e; exact e)))

def S_spec_InverseField : Sum := { fid := 73, dom := [(.int 3)], cod := [(.int 3)], dp := true, fz := false, pre := fun x => True, g := fun x => ((invF x.1), ()) }
def S_spec_InverseField_tab : List (Nat × Sum) := [(38, S_spec_IsElement), (74, S_spec_l4Pow)]
theorem S_spec_InverseField_ok : FnOK Tryd.prog 73 S_spec_InverseField := by
 refine at_enter 12 (fun x => ⟨[(0, aI x.1)], []⟩) Tryd.func73 rfl (by kernel_rfl) (fun x => rfl) ?_
 rintro w0 Z0 ⟨x0, u⟩ a w
 revert x0
 intro (x0 : Int) hpre hlens h
 have hT : TabOK Tryd.prog w0 [] S_spec_InverseField_tab := (.cons S_spec_IsElement_ok (.cons S_spec_l4Pow_ok .nil))
 refine wp_seq ?_
 refine at_regq [] { ts := [0, 2], os := [] } [] gamOK hT h (by kernel_rfl) trivial fun a w h => then_normal (wp_seq (wp_seq ?_))
 rcases Bool.eq_false_or_eq_true (!(isEl x0)) with h1 | h1
 ·have hzh1 : (isEl x0) = false := notT h1
  refine at_regq [{}, {}, { hint := some (aB true) }] { ts := [0, 2, 9], os := [] } [True, (AV.p (.c (.v (.bool (!(isEl x0))))) = AV.p (.c (.v (.bool true))))] gamOK hT h (by kernel_rfl) ⟨trivial, hint_bool (h1), trivial⟩ fun a w h => then_normal ?_
  refine at_test true h (by kernel_rfl) (fun hh => ?_) (fun hh => nomatch hh)
  refine wp_seq ?_
  refine at_regq [] { ts := [0, 2], os := [] } [] gamOK hT h (by kernel_rfl) trivial fun a w h => then_normal (wp_ret (then_ret ?_))
  exact at_return (0, ()) [] h (by kernel_rfl) trivial (congrArg (fun z => (z, ())) (show (0) = invF x0 from by (unfold invF; first | (rw [if_pos (show isEl x0 = true by first | assumption | simpa using h1)]; first | rfl | (rw [show x0 = 0 by assumption, invS_zero])) | (rw [if_neg (by simp_all)]))))
 ·have hzh1 : (isEl x0) = true := notF h1
  have hvh1 := isEl_t (notF h1)
  refine at_regq [{}, {}, { hint := some (aB false) }] { ts := [0, 2, 9], os := [] } [True, (AV.p (.c (.v (.bool (!(isEl x0))))) = AV.p (.c (.v (.bool false))))] gamOK hT h (by kernel_rfl) ⟨trivial, hint_bool (h1), trivial⟩ fun a w h => then_normal ?_
  refine at_test (decide (x0 = 0)) h (by kernel_rfl) (fun h2 => ?_) (fun h2 => ?_)
  ·replace h2 : x0 = 0 := of_decide_eq_true h2
   refine wp_seq ?_
   refine at_regq [] { ts := [0, 2], os := [] } [] gamOK hT h (by kernel_rfl) trivial fun a w h => then_normal (wp_ret (then_ret ?_))
   exact at_return (0, ()) [] h (by kernel_rfl) trivial (congrArg (fun z => (z, ())) (show (0) = invF x0 from by (unfold invF; first | (rw [if_pos (show isEl x0 = true by first | assumption | simpa using h1)]; first | rfl | (rw [show x0 = 0 by assumption, invS_zero])) | (rw [if_neg (by simp_all)]))))
  ·replace h2 : ¬ (x0 = 0) := of_decide_eq_false h2
   refine wp_skip (then_normal (wp_seq ?_))
   refine at_regq [] { ts := [2], os := [] } [powP x0 1017 1019] gamOK hT h (by kernel_rfl) ⟨(by (show _ ∧ _; refine ⟨⟨?_, ?_⟩, ⟨?_, ?_⟩, ?_, ?_⟩ <;> omega)), trivial⟩ fun a w h => then_normal (wp_ret ?_)
   exact at_return ((powD x0 1017 1019), ()) [] h (by kernel_rfl) trivial (congrArg (fun z => (z, ())) (show ((powD x0 1017 1019)) = invF x0 from by (unfold invF; first | (rw [if_pos (show isEl x0 = true by first | assumption | simpa using h1)]; first | rfl | (rw [show x0 = 0 by assumption, invS_zero])) | (rw [if_neg (by simp_all)]))))

def validV (x0 : (List Int)) : Bool := (if (List.all x0 isEl) = true then decide (((List.length x0 : Nat) : Int) ≤ 40) else false)
abbrev Q_spec_IsValidVector := (fun (x0 : (List Int)) => Sh.fit s27 x0)
def S_spec_IsValidVector : Sum := { fid := 46, dom := [s27], cod := [(.bool 4)], dp := true, fz := false, pre := fun x => Q_spec_IsValidVector x.1, g := fun x => ((validV x.1), ()) }
def S_spec_IsValidVector_tab : List (Nat × Sum) := [(38, S_spec_IsElement)]
theorem S_spec_IsValidVector_ok : FnOK Tryd.prog 46 S_spec_IsValidVector := by
 refine at_enter 19 (fun x => ⟨[(0, aF (.int 3) x.1)], []⟩) Tryd.func46 rfl (by kernel_rfl) (fun x => rfl) ?_
 rintro w0 Z0 ⟨x0, u⟩ a w
 revert x0
 intro (x0 : (List Int)) hpre hlens h
 replace hpre : Q_spec_IsValidVector x0 := hpre
 have hT : TabOK Tryd.prog w0 [] S_spec_IsValidVector_tab := (.cons S_spec_IsElement_ok .nil)
 have hf0 : Sh.fit s27 x0 := hpre
 have hn0_1 : List.length x0 ≤ 1073741824 := hf0.1
 refine wp_seq ?_
 refine at_regq [] { ts := [0, 2], os := [] } [] gamOK hT h (by kernel_rfl) trivial fun a w h => then_normal (wp_seq (wp_seq ?_))
 refine at_regq [] { ts := [0, 2, 3], os := [] } [] gamOK hT h (by kernel_rfl) trivial fun a w h => then_normal (wp_block ?_)
 replace h := at_out (σ' := ⟨[(0, aF (.int 3) x0), (2, aB false), (3, aI 0)], []⟩) { ts := [0, 2, 3], os := [] } h (by kernel_rfl)
 refine at_loop (fun i : Nat => (⟨[(0, aF (.int 3) x0), (2, aB false), (3, aI ((i : Nat) : Int))], []⟩ : St)) (fun i => (i ≤ List.length x0 ∧ allTo1 isEl x0 0 i)) (fun i => List.length x0 - i) (0) h (st_congr1 (fun (d0 : Int) => (⟨[(0, aF (.int 3) x0), (2, aB false), (3, aI d0)], []⟩ : St)) (show (0 : Int) = (((0) : Nat) : Int) from by first | with_reducible rfl | (rfl) | rfl)) (by exact ⟨Nat.zero_le _, allTo1_zero⟩) ?_
 intro i a w hok0 h
 refine wp_seq (wp_seq ?_)
 refine at_regq [] { ts := [0, 2, 3, 7], os := [] } [] gamOK hT h (by kernel_rfl) trivial fun a w h => then_normal ?_
 refine at_test (decide (((i : Nat) : Int) < ((List.length x0 : Nat) : Int))) h (by kernel_rfl) (fun h1 => ?_) (fun h1 => ?_)
 ·replace h1 : ((i : Nat) : Int) < ((List.length x0 : Nat) : Int) := of_decide_eq_true h1
  refine wp_skip (then_normal (wp_seq (wp_block (wp_seq ?_))))
  refine at_regq [] { ts := [0, 2, 3, 15], os := [] } [(0 : Int) ≤ ((i : Nat) : Int) ∧ ((i : Nat) : Int) < ((List.length x0 : Nat) : Int), True] gamOK hT h (by kernel_rfl) ⟨(by refine ⟨?_, ?_⟩ <;> (first | omega | (simp only [lsA]; omega) | (simp <;> omega))), trivial, trivial⟩ fun a w h => then_normal ?_
  refine at_test (!(isEl (x0.getD i 0))) h (by kernel_rfl) (fun h2 => ?_) (fun h2 => ?_)
  ·replace h2 : (isEl (x0.getD i 0)) = false := notT h2
   refine wp_seq ?_
   refine at_regq [] { ts := [0, 2, 3], os := [] } [] gamOK hT h (by kernel_rfl) trivial fun a w h => then_normal (wp_ret (in_ret (then_ret ?_)))
   have hs3 : (List.all x0 isEl) = false := by exact all_at (z := 0) (i := i) (by omega) (by first | assumption | (simp_all; done))
   refine then_ret (in_ret (then_ret ?_))
   exact at_return (false, ()) [] h (by kernel_rfl) trivial (congrArg (fun z => (z, ())) (show (false) = validV x0 from by first | rfl | (unfold validV; rw [if_neg (neT hs3)])))
  ·replace h2 : (isEl (x0.getD i 0)) = true := notF h2
   have hvh2 := isEl_t h2
   refine wp_skip (in_normal (then_normal ?_))
   refine at_regq [{}, { nw := true }] { ts := [0, 2, 3], os := [] } [I64 (((i : Nat) : Int) + 1)] gamOK hT h (by kernel_rfl) ⟨⟨by first | omega | (simp only [lsA]; omega) | (simp <;> omega), by first | omega | (simp only [lsA]; omega) | (simp <;> omega)⟩, trivial⟩ fun a w h => ?_
   replace h := at_out (σ' := ⟨[(0, aF (.int 3) x0), (2, aB false), (3, aI (((i : Nat) : Int) + 1))], []⟩) { ts := [0, 2, 3], os := [] } h (by kernel_rfl)
   exact ⟨i + 1, at_eq h (st_congr1 (fun (d0 : Int) => (⟨[(0, aF (.int 3) x0), (2, aB false), (3, aI d0)], []⟩ : St)) (show (((i : Nat) : Int) + 1 : Int) = (((i + 1) : Nat) : Int) from by first | with_reducible rfl | (omega) | rfl)), (by exact ⟨by omega, allTo1_succ hok0.2 (by first | assumption | (simp_all; done))⟩), (by omega)⟩
 ·replace h1 : ¬ (((i : Nat) : Int) < ((List.length x0 : Nat) : Int)) := of_decide_eq_false h1
  refine wp_exit (then_exit ?_)
  have hs4 : (List.all x0 isEl) = true := by exact all_of (z := 0) (i := i) (by omega) hok0.2
  refine then_exit (in_hit (then_normal (wp_seq ?_)))
  refine at_regq [] { ts := [2], os := [] } [] gamOK hT h (by kernel_rfl) trivial fun a w h => then_normal (wp_ret ?_)
  exact at_return (decide (((List.length x0 : Nat) : Int) ≤ 40), ()) [] h (by kernel_rfl) trivial (congrArg (fun z => (z, ())) (show (decide (((List.length x0 : Nat) : Int) ≤ 40)) = validV x0 from by first | rfl | (unfold validV; rw [if_pos hs4])))
theorem validV_t {v : List Int} (h : validV v = true) : List.length v ≤ 40 ∧ (∀ x ∈ v, LA.El x) ∧ (∀ j, 0 ≤ v.getD j 0 ∧ v.getD j 0 ≤ 1018) := by
 unfold validV at h
 split at h
 ·rename_i ha
  have := of_decide_eq_true h
  exact ⟨by omega, validV_el ha, elB (validV_el ha)⟩
 ·cases h
def scaleV (v : List Int) (k : Int) : List Int := if validV v = true ∧ isEl k = true then LA.scaleS v k else []
theorem scaleV_ok {v : List Int} {k : Int} (hv : validV v = true) (hk : 0 ≤ k ∧ k ≤ 1018) : scaleV v k = LA.scaleS v k := if_pos ⟨hv, inR_true hk⟩
theorem scaleV_len (v : List Int) (k : Int) : (scaleV v k).length ≤ v.length := by unfold scaleV LA.scaleS; split <;> simp
def addV (a b : List Int) (k : Int) : List Int := if (validV a = true ∧ validV b = true ∧ List.length a = List.length b) ∧ isEl k = true then LA.addS a b k else []

abbrev Q_spec_LeadingIndex := (fun (x0 : (List Int)) => Sh.fit s27 x0)
def S_spec_LeadingIndex : Sum := { fid := 65, dom := [s27], cod := [(.int 3)], dp := true, fz := false, pre := fun x => Q_spec_LeadingIndex x.1, g := fun x => ((LA.leadS x.1), ()) }
def S_spec_LeadingIndex_tab : List (Nat × Sum) := []
theorem S_spec_LeadingIndex_ok : FnOK Tryd.prog 65 S_spec_LeadingIndex := by
 refine at_enter 16 (fun x => ⟨[(0, aF (.int 3) x.1)], []⟩) Tryd.func65 rfl (by kernel_rfl) (fun x => rfl) ?_
 rintro w0 Z0 ⟨x0, u⟩ a w
 revert x0
 intro (x0 : (List Int)) hpre hlens h
 replace hpre : Q_spec_LeadingIndex x0 := hpre
 have hT : TabOK Tryd.prog w0 [] S_spec_LeadingIndex_tab := .nil
 have hf0 : Sh.fit s27 x0 := hpre
 have hn0_1 : List.length x0 ≤ 1073741824 := hf0.1
 refine wp_seq ?_
 refine at_regq [] { ts := [0, 2], os := [] } [] gamOK hT h (by kernel_rfl) trivial fun a w h => then_normal (wp_seq (wp_seq ?_))
 refine at_regq [] { ts := [0, 2, 3], os := [] } [] gamOK hT h (by kernel_rfl) trivial fun a w h => then_normal (wp_block ?_)
 replace h := at_out (σ' := ⟨[(0, aF (.int 3) x0), (2, aI 0), (3, aI 0)], []⟩) { ts := [0, 2, 3], os := [] } h (by kernel_rfl)
 refine at_loop (fun i : Nat => (⟨[(0, aF (.int 3) x0), (2, aI 0), (3, aI ((i : Nat) : Int))], []⟩ : St)) (fun i => (i ≤ List.length x0 ∧ noneTo (fun e => !decide (e = 0)) x0 0 i)) (fun i => List.length x0 - i) (0) h (st_congr1 (fun (d0 : Int) => (⟨[(0, aF (.int 3) x0), (2, aI 0), (3, aI d0)], []⟩ : St)) (show (0 : Int) = (((0) : Nat) : Int) from by first | with_reducible rfl | (rfl) | rfl)) (by exact ⟨Nat.zero_le _, noneTo_zero⟩) ?_
 intro i a w hok0 h
 refine wp_seq (wp_seq ?_)
 refine at_regq [] { ts := [0, 2, 3, 7], os := [] } [] gamOK hT h (by kernel_rfl) trivial fun a w h => then_normal ?_
 refine at_test (decide (((i : Nat) : Int) < ((List.length x0 : Nat) : Int))) h (by kernel_rfl) (fun h1 => ?_) (fun h1 => ?_)
 ·replace h1 : ((i : Nat) : Int) < ((List.length x0 : Nat) : Int) := of_decide_eq_true h1
  refine wp_skip (then_normal (wp_seq (wp_block (wp_seq ?_))))
  refine at_regq [] { ts := [0, 2, 3, 14], os := [] } [(0 : Int) ≤ ((i : Nat) : Int) ∧ ((i : Nat) : Int) < ((List.length x0 : Nat) : Int)] gamOK hT h (by kernel_rfl) ⟨(by refine ⟨?_, ?_⟩ <;> (first | omega | (simp only [lsA]; omega) | (simp <;> omega))), trivial⟩ fun a w h => then_normal ?_
  refine at_test (!decide ((x0.getD i 0) = 0)) h (by kernel_rfl) (fun h2 => ?_) (fun h2 => ?_)
  ·replace h2 : ¬ ((x0.getD i 0) = 0) := of_decide_eq_false (notT h2)
   refine wp_seq ?_
   refine at_regq [] { ts := [0, 2, 3], os := [] } [] gamOK hT h (by kernel_rfl) trivial fun a w h => then_normal (wp_ret (in_ret (then_ret (then_ret (in_ret (then_ret ?_))))))
   exact at_return (((i : Nat) : Int), ()) [] h (by kernel_rfl) trivial (congrArg (fun z => (z, ())) (show (((i : Nat) : Int)) = LA.leadS x0 from by (rw [← lead_idx]; exact (idxF_at (z := 0) (by omega) hok0.2 (by simpa using h2)).symm)))
  ·replace h2 : (x0.getD i 0) = 0 := of_decide_eq_true (notF h2)
   refine wp_skip (in_normal (then_normal ?_))
   refine at_regq [{}, { nw := true }] { ts := [0, 2, 3], os := [] } [I64 (((i : Nat) : Int) + 1)] gamOK hT h (by kernel_rfl) ⟨⟨by first | omega | (simp only [lsA]; omega) | (simp <;> omega), by first | omega | (simp only [lsA]; omega) | (simp <;> omega)⟩, trivial⟩ fun a w h => ?_
   replace h := at_out (σ' := ⟨[(0, aF (.int 3) x0), (2, aI 0), (3, aI (((i : Nat) : Int) + 1))], []⟩) { ts := [0, 2, 3], os := [] } h (by kernel_rfl)
   exact ⟨i + 1, at_eq h (st_congr1 (fun (d0 : Int) => (⟨[(0, aF (.int 3) x0), (2, aI 0), (3, aI d0)], []⟩ : St)) (show (((i : Nat) : Int) + 1 : Int) = (((i + 1) : Nat) : Int) from by first | with_reducible rfl | (omega) | rfl)), (by exact ⟨by omega, noneTo_succ hok0.2 (by simpa using h2)⟩), (by omega)⟩
 ·replace h1 : ¬ (((i : Nat) : Int) < ((List.length x0 : Nat) : Int)) := of_decide_eq_false h1
  refine wp_exit (then_exit (then_exit (in_hit (then_normal (wp_seq ?_)))))
  refine at_regq [] { ts := [2], os := [] } [] gamOK hT h (by kernel_rfl) trivial fun a w h => then_normal (wp_ret ?_)
  exact at_return ((-1), ()) [] h (by kernel_rfl) trivial (congrArg (fun z => (z, ())) (show ((-1)) = LA.leadS x0 from by (rw [← lead_idx]; exact (idxF_none (z := 0) (by omega) hok0.2).symm)))

abbrev Q_spec_ScaleVector := (fun (x0 : (List Int)) (x1 : Int) => Sh.fit s27 x0)
def S_spec_ScaleVector : Sum := { fid := 72, dom := [s27, (.int 3)], cod := [s27], dp := true, fz := false, pre := fun x => Q_spec_ScaleVector x.1 x.2.1, g := fun x => ((scaleV x.1 x.2.1), ()) }
def S_spec_ScaleVector_tab : List (Nat × Sum) := [(46, S_spec_IsValidVector), (38, S_spec_IsElement)]
theorem S_spec_ScaleVector_ok : FnOK Tryd.prog 72 S_spec_ScaleVector := by
 refine at_enter 34 (fun x => ⟨[(0, aF (.int 3) x.1), (1, aI x.2.1)], []⟩) Tryd.func72 rfl (by kernel_rfl) (fun x => rfl) ?_
 rintro w0 Z0 ⟨x0, x1, u⟩ a w
 revert x0 x1
 intro (x0 : (List Int)) (x1 : Int) hpre hlens h
 replace hpre : Q_spec_ScaleVector x0 x1 := hpre
 have hT : TabOK Tryd.prog w0 [] S_spec_ScaleVector_tab := (.cons S_spec_IsValidVector_ok (.cons S_spec_IsElement_ok .nil))
 have hf0 : Sh.fit s27 x0 := hpre
 have hn0_1 : List.length x0 ≤ 1073741824 := hf0.1
 refine wp_seq ?_
 refine at_regq [] { ts := [0, 1, 4], os := [] } [] gamOK hT h (by kernel_rfl) trivial fun a w h => then_normal (wp_seq ?_)
 refine at_regq [{ ids := [1] }] { ts := [0, 1, 4, 5], os := [1] } [] gamOK hT h (by kernel_rfl) trivial fun a w h => then_normal (wp_seq (wp_seq ?_))
 rcases Bool.eq_false_or_eq_true (!(validV x0)) with h1 | h1
 ·have hzh1 : (validV x0) = false := notT h1
  refine at_regq [{}, {}, { hint := some (aB true) }] { ts := [0, 1, 4, 5, 15], os := [1] } [Q_spec_IsValidVector x0, (AV.p (.c (.v (.bool (!(validV x0))))) = AV.p (.c (.v (.bool true))))] gamOK hT h (by kernel_rfl) ⟨(by exact hf0), hint_bool (h1), trivial⟩ fun a w h => then_normal ?_
  refine at_test true h (by kernel_rfl) (fun hh => ?_) (fun hh => nomatch hh)
  refine wp_seq ?_
  refine at_regq [] { ts := [0, 1, 4, 5], os := [1] } [] gamOK hT h (by kernel_rfl) trivial fun a w h => then_normal (wp_ret (then_ret ?_))
  exact at_return (([] : List Int), ()) [] h (by kernel_rfl) trivial (congrArg (fun z => (z, ())) (show (([] : List Int)) = scaleV x0 x1 from by (unfold scaleV; first | (rw [if_pos ⟨by assumption, by assumption⟩, take_all (by omega)]; rfl) | (rw [if_neg (by simp_all)]; done))))
 ·have hzh1 : (validV x0) = true := notF h1
  have hvh1 := validV_t (notF h1)
  refine at_regq [{}, {}, { hint := some (aB false) }] { ts := [0, 1, 4, 5, 15], os := [1] } [Q_spec_IsValidVector x0, (AV.p (.c (.v (.bool (!(validV x0))))) = AV.p (.c (.v (.bool false)))), True] gamOK hT h (by kernel_rfl) ⟨(by exact hf0), hint_bool (h1), trivial, trivial⟩ fun a w h => then_normal ?_
  refine at_test (!(isEl x1)) h (by kernel_rfl) (fun h2 => ?_) (fun h2 => ?_)
  ·replace h2 : (isEl x1) = false := notT h2
   refine wp_seq ?_
   refine at_regq [] { ts := [0, 1, 4, 5], os := [1] } [] gamOK hT h (by kernel_rfl) trivial fun a w h => then_normal (wp_ret (then_ret ?_))
   exact at_return (([] : List Int), ()) [] h (by kernel_rfl) trivial (congrArg (fun z => (z, ())) (show (([] : List Int)) = scaleV x0 x1 from by (unfold scaleV; first | (rw [if_pos ⟨by assumption, by assumption⟩, take_all (by omega)]; rfl) | (rw [if_neg (by simp_all)]; done))))
  ·replace h2 : (isEl x1) = true := notF h2
   have hvh2 := isEl_t h2
   refine wp_skip (then_normal (wp_seq (wp_seq ?_)))
   refine at_regq [] { ts := [0, 1, 4, 5, 6], os := [1] } [] gamOK hT h (by kernel_rfl) trivial fun a w h => then_normal (wp_block ?_)
   replace h := at_out (σ' := ⟨[(0, aF (.int 3) x0), (1, aI x1), (4, .p (.c (cN))), (5, aS 1), (6, aI 0)], [(1, oR (.int 3) ([] : List Int))]⟩) { ts := [0, 1, 4, 5, 6], os := [1] } h (by kernel_rfl)
   refine at_loop (fun i : Nat => (⟨[(0, aF (.int 3) x0), (1, aI x1), (4, .p (.c (cN))), (5, aS 1), (6, aI ((i : Nat) : Int))], [(1, oR (.int 3) (List.map (scF x1) (List.take i x0)))]⟩ : St)) (fun i => i ≤ List.length x0) (fun i => List.length x0 - i) (0) h (st_congr2 (fun (d0 : List Int) (d1 : Int) => (⟨[(0, aF (.int 3) x0), (1, aI x1), (4, .p (.c (cN))), (5, aS 1), (6, aI d1)], [(1, oR (.int 3) d0)]⟩ : St)) (show (([] : List Int) : List Int) = (List.map (scF x1) (List.take (0) x0)) from by first | with_reducible rfl | (first | rfl | simp) | rfl) (show (0 : Int) = (((0) : Nat) : Int) from by first | with_reducible rfl | (first | rfl | simp) | rfl)) (by omega) ?_
   intro i a w hok0 h
   have hlt0 := len_take_le (xs := x0) i
   refine wp_seq (wp_seq ?_)
   refine at_regq [] { ts := [0, 1, 4, 5, 6, 20], os := [1] } [] gamOK hT h (by kernel_rfl) trivial fun a w h => then_normal ?_
   refine at_test (decide (((i : Nat) : Int) < ((List.length x0 : Nat) : Int))) h (by kernel_rfl) (fun h3 => ?_) (fun h3 => ?_)
   ·replace h3 : ((i : Nat) : Int) < ((List.length x0 : Nat) : Int) := of_decide_eq_true h3
    have hx1 := (validV_t (v := x0) (by assumption)).2.2 i
    refine wp_skip (then_normal (wp_seq (wp_block ?_)))
    refine at_regq [{}, {}, {}, {}, {}, {}, { nw := true }, {}, { ids := [2] }, { ids := [3] }] { ts := [0, 1, 4, 5, 6], os := [3] } [(0 : Int) ≤ ((i : Nat) : Int) ∧ ((i : Nat) : Int) < ((List.length x0 : Nat) : Int), I64 ((x0.getD i 0) * x1), (1019 : Int) ≠ 0, (List.length (List.map (scF x1) (List.take i x0)) + List.length ([(Int.tmod ((x0.getD i 0) * x1) 1019)])) * 8 ≤ 140737488355328] gamOK hT h (by kernel_rfl) ⟨(by refine ⟨?_, ?_⟩ <;> (first | omega | (simp only [lsA]; omega) | (simp <;> omega))), ⟨by (have hA0 := mul_f (x0.getD i 0) x1; first | omega | (simp only [lsA]; omega) | (simp <;> omega)), by (have hA0 := mul_f (x0.getD i 0) x1; first | omega | (simp only [lsA]; omega) | (simp <;> omega))⟩, (by first | omega | (simp only [lsA]; omega) | (simp <;> omega)), (by (have hA0 := mul_f (x0.getD i 0) x1; have hA1 := tmod_f ((x0.getD i 0) * x1) 1019; first | omega | (simp only [lsA]; omega) | (simp <;> omega))), trivial⟩ fun a w h => in_normal (then_normal ?_)
    refine at_regq [{}, { nw := true }] { ts := [0, 1, 4, 5, 6], os := [3] } [I64 (((i : Nat) : Int) + 1)] gamOK hT h (by kernel_rfl) ⟨⟨by first | omega | (simp only [lsA]; omega) | (simp <;> omega), by first | omega | (simp only [lsA]; omega) | (simp <;> omega)⟩, trivial⟩ fun a w h => ?_
    replace h := at_out (σ' := ⟨[(0, aF (.int 3) x0), (1, aI x1), (4, .p (.c (cN))), (5, aS 1), (6, aI (((i : Nat) : Int) + 1))], [(1, oR (.int 3) ((List.map (scF x1) (List.take i x0)) ++ ([(Int.tmod ((x0.getD i 0) * x1) 1019)])))]⟩) { ts := [0, 1, 4, 5, 6], os := [3], rn := [(3, 1)] } h (by kernel_rfl)
    exact ⟨i + 1, at_eq h (st_congr2 (fun (d0 : List Int) (d1 : Int) => (⟨[(0, aF (.int 3) x0), (1, aI x1), (4, .p (.c (cN))), (5, aS 1), (6, aI d1)], [(1, oR (.int 3) d0)]⟩ : St)) (show (((List.map (scF x1) (List.take i x0)) ++ ([(Int.tmod ((x0.getD i 0) * x1) 1019)])) : List Int) = (List.map (scF x1) (List.take (i + 1) x0)) from by first | with_reducible rfl | (rw [map_snoc (z := 0) (by omega)]; done) | rfl) (show (((i : Nat) : Int) + 1 : Int) = (((i + 1) : Nat) : Int) from by first | with_reducible rfl | (omega) | rfl)), (by omega), (by omega)⟩
   ·replace h3 : ¬ (((i : Nat) : Int) < ((List.length x0 : Nat) : Int)) := of_decide_eq_false h3
    refine wp_exit (then_exit (then_exit (in_hit (then_normal (wp_seq ?_)))))
    refine at_regq [] { ts := [4], os := [1] } [] gamOK hT h (by kernel_rfl) trivial fun a w h => then_normal (wp_ret ?_)
    exact at_return ((List.map (scF x1) (List.take i x0)), ()) [] h (by kernel_rfl) trivial (congrArg (fun z => (z, ())) (show ((List.map (scF x1) (List.take i x0))) = scaleV x0 x1 from by (unfold scaleV; first | (rw [if_pos ⟨by assumption, by assumption⟩, take_all (by omega)]; rfl) | (rw [if_neg (by simp_all)]; done))))

def l5P (x0 : (List Int)) (x1 : (List Int)) : Bool := (if (validV x0) = true then (if (validV x1) = true then decide (((List.length x0 : Nat) : Int) = ((List.length x1 : Nat) : Int)) else false) else false)
abbrev Q_spec_l5Pair := (fun (x0 : (List Int)) (x1 : (List Int)) => Sh.fit s27 x0 ∧ Sh.fit s27 x1)
def S_spec_l5Pair : Sum := { fid := 67, dom := [s27, s27], cod := [(.bool 4)], dp := true, fz := false, pre := fun x => Q_spec_l5Pair x.1 x.2.1, g := fun x => ((l5P x.1 x.2.1), ()) }
def S_spec_l5Pair_tab : List (Nat × Sum) := [(46, S_spec_IsValidVector)]
theorem S_spec_l5Pair_ok : FnOK Tryd.prog 67 S_spec_l5Pair := by
 refine at_enter 18 (fun x => ⟨[(0, aF (.int 3) x.1), (1, aF (.int 3) x.2.1)], []⟩) Tryd.func67 rfl (by kernel_rfl) (fun x => rfl) ?_
 rintro w0 Z0 ⟨x0, x1, u⟩ a w
 revert x0 x1
 intro (x0 : (List Int)) (x1 : (List Int)) hpre hlens h
 replace hpre : Q_spec_l5Pair x0 x1 := hpre
 have hT : TabOK Tryd.prog w0 [] S_spec_l5Pair_tab := (.cons S_spec_IsValidVector_ok .nil)
 obtain ⟨hf0, hf1⟩ := hpre
 have hn0_1 : List.length x0 ≤ 1073741824 := hf0.1
 have hn1_2 : List.length x1 ≤ 1073741824 := hf1.1
 refine wp_seq ?_
 refine at_regq [] { ts := [0, 1, 4], os := [] } [] gamOK hT h (by kernel_rfl) trivial fun a w h => then_normal (wp_seq ?_)
 rcases Bool.eq_false_or_eq_true ((validV x0)) with h1 | h1
 ·have hvh1 := validV_t h1
  rcases Bool.eq_false_or_eq_true ((validV x1)) with h2 | h2
  ·have hvh2 := validV_t h2
   refine at_regq [{}, { hint := some (aB true) }, {}, {}, { hint := some (aB true) }] { ts := [4], os := [] } [Q_spec_IsValidVector x0, (AV.p (.c (.v (.bool ((validV x0))))) = AV.p (.c (.v (.bool true)))), Q_spec_IsValidVector x1, (AV.p (.c (.v (.bool ((validV x1))))) = AV.p (.c (.v (.bool true))))] gamOK hT h (by kernel_rfl) ⟨(by exact hf0), hint_bool (h1), (by exact hf1), hint_bool (h2), trivial⟩ fun a w h => then_normal (wp_ret ?_)
   exact at_return (decide (((List.length x0 : Nat) : Int) = ((List.length x1 : Nat) : Int)), ()) [] h (by kernel_rfl) trivial (congrArg (fun z => (z, ())) (show (decide (((List.length x0 : Nat) : Int) = ((List.length x1 : Nat) : Int))) = l5P x0 x1 from by first | rfl | (unfold l5P; rw [if_pos h1, if_pos h2])))
  ·refine at_regq [{}, { hint := some (aB true) }, {}, {}, { hint := some (aB false) }] { ts := [4], os := [] } [Q_spec_IsValidVector x0, (AV.p (.c (.v (.bool ((validV x0))))) = AV.p (.c (.v (.bool true)))), Q_spec_IsValidVector x1, (AV.p (.c (.v (.bool ((validV x1))))) = AV.p (.c (.v (.bool false))))] gamOK hT h (by kernel_rfl) ⟨(by exact hf0), hint_bool (h1), (by exact hf1), hint_bool (h2), trivial⟩ fun a w h => then_normal (wp_ret ?_)
   exact at_return (false, ()) [] h (by kernel_rfl) trivial (congrArg (fun z => (z, ())) (show (false) = l5P x0 x1 from by first | rfl | (unfold l5P; rw [if_pos h1, if_neg (neT h2)])))
 ·refine at_regq [{}, { hint := some (aB false) }] { ts := [4], os := [] } [Q_spec_IsValidVector x0, (AV.p (.c (.v (.bool ((validV x0))))) = AV.p (.c (.v (.bool false))))] gamOK hT h (by kernel_rfl) ⟨(by exact hf0), hint_bool (h1), trivial⟩ fun a w h => then_normal (wp_ret ?_)
  exact at_return (false, ()) [] h (by kernel_rfl) trivial (congrArg (fun z => (z, ())) (show (false) = l5P x0 x1 from by first | rfl | (unfold l5P; rw [if_neg (neT h1)])))
theorem l5P_t {a b : List Int} (h : l5P a b = true) : validV a = true ∧ validV b = true ∧ List.length a = List.length b := by
 unfold l5P at h
 split at h
 ·split at h
  ·have := of_decide_eq_true h; exact ⟨by assumption, by assumption, by omega⟩
  ·cases h
 ·cases h
theorem l5P_of {a b : List Int} (h : validV a = true ∧ validV b = true ∧ List.length a = List.length b) : l5P a b = true := by
 unfold l5P; rw [if_pos h.1, if_pos h.2.1]; exact decide_eq_true (by omega)
theorem l5P_v {a b : List Int} (h : l5P a b = true) : (List.length a = List.length b ∧ List.length a ≤ 40) ∧ (∀ j, 0 ≤ a.getD j 0 ∧ a.getD j 0 ≤ 1018) ∧ (∀ j, 0 ≤ b.getD j 0 ∧ b.getD j 0 ≤ 1018) := by
 have h := l5P_t h
 exact ⟨⟨h.2.2, (validV_t h.1).1⟩, (validV_t h.1).2.2, (validV_t h.2.1).2.2⟩
theorem addV_ok {a b : List Int} {k : Int} (ha : validV a = true) (hb : validV b = true) (hl : List.length a = List.length b) (hk : 0 ≤ k ∧ k ≤ 1018) : addV a b k = LA.addS a b k := if_pos ⟨⟨ha, hb, hl⟩, inR_true hk⟩
theorem addV_len (a b : List Int) (k : Int) : (addV a b k).length ≤ a.length := by unfold addV LA.addS; split <;> simp <;> omega

abbrev Q_spec_AddScaled := (fun (x0 : (List Int)) (x1 : (List Int)) (x2 : Int) => Sh.fit s27 x0 ∧ Sh.fit s27 x1)
def S_spec_AddScaled : Sum := { fid := 60, dom := [s27, s27, (.int 3)], cod := [s27], dp := true, fz := false, pre := fun x => Q_spec_AddScaled x.1 x.2.1 x.2.2.1, g := fun x => ((addV x.1 x.2.1 x.2.2.1), ()) }
def S_spec_AddScaled_tab : List (Nat × Sum) := [(67, S_spec_l5Pair), (38, S_spec_IsElement)]
theorem S_spec_AddScaled_ok : FnOK Tryd.prog 60 S_spec_AddScaled := by
 refine at_enter 42 (fun x => ⟨[(0, aF (.int 3) x.1), (1, aF (.int 3) x.2.1), (2, aI x.2.2.1)], []⟩) Tryd.func60 rfl (by kernel_rfl) (fun x => rfl) ?_
 rintro w0 Z0 ⟨x0, x1, x2, u⟩ a w
 revert x0 x1 x2
 intro (x0 : (List Int)) (x1 : (List Int)) (x2 : Int) hpre hlens h
 replace hpre : Q_spec_AddScaled x0 x1 x2 := hpre
 have hT : TabOK Tryd.prog w0 [] S_spec_AddScaled_tab := (.cons S_spec_l5Pair_ok (.cons S_spec_IsElement_ok .nil))
 obtain ⟨hf0, hf1⟩ := hpre
 have hn0_1 : List.length x0 ≤ 1073741824 := hf0.1
 have hn1_2 : List.length x1 ≤ 1073741824 := hf1.1
 refine wp_seq ?_
 refine at_regq [] { ts := [0, 1, 2, 6], os := [] } [] gamOK hT h (by kernel_rfl) trivial fun a w h => then_normal (wp_seq ?_)
 refine at_regq [{ ids := [1] }] { ts := [0, 1, 2, 6, 7], os := [1] } [] gamOK hT h (by kernel_rfl) trivial fun a w h => then_normal (wp_seq (wp_seq ?_))
 rcases Bool.eq_false_or_eq_true (!(l5P x0 x1)) with h1 | h1
 ·have hzh1 : (l5P x0 x1) = false := notT h1
  refine at_regq [{}, {}, {}, { hint := some (aB true) }] { ts := [0, 1, 2, 6, 7, 18], os := [1] } [Q_spec_l5Pair x0 x1, (AV.p (.c (.v (.bool (!(l5P x0 x1))))) = AV.p (.c (.v (.bool true))))] gamOK hT h (by kernel_rfl) ⟨(by exact ⟨hf0, hf1⟩), hint_bool (h1), trivial⟩ fun a w h => then_normal ?_
  refine at_test true h (by kernel_rfl) (fun hh => ?_) (fun hh => nomatch hh)
  refine wp_seq ?_
  refine at_regq [] { ts := [0, 1, 2, 6, 7], os := [1] } [] gamOK hT h (by kernel_rfl) trivial fun a w h => then_normal (wp_ret (then_ret ?_))
  exact at_return (([] : List Int), ()) [] h (by kernel_rfl) trivial (congrArg (fun z => (z, ())) (show (([] : List Int)) = addV x0 x1 x2 from by (unfold addV; first | (have hl : List.length x0 = List.length x1 := (l5P_t (by assumption)).2.2; rw [if_pos ⟨l5P_t (by assumption), by assumption⟩, take_all (by rw [LA.addS_len hl]; omega)]; done) | (rw [if_neg (fun e => by have := l5P_of e.1; simp_all)]; done))))
 ·have hzh1 : (l5P x0 x1) = true := notF h1
  have hvh1 := l5P_v (notF h1)
  refine at_regq [{}, {}, {}, { hint := some (aB false) }] { ts := [0, 1, 2, 6, 7, 18], os := [1] } [Q_spec_l5Pair x0 x1, (AV.p (.c (.v (.bool (!(l5P x0 x1))))) = AV.p (.c (.v (.bool false)))), True] gamOK hT h (by kernel_rfl) ⟨(by exact ⟨hf0, hf1⟩), hint_bool (h1), trivial, trivial⟩ fun a w h => then_normal ?_
  refine at_test (!(isEl x2)) h (by kernel_rfl) (fun h2 => ?_) (fun h2 => ?_)
  ·replace h2 : (isEl x2) = false := notT h2
   refine wp_seq ?_
   refine at_regq [] { ts := [0, 1, 2, 6, 7], os := [1] } [] gamOK hT h (by kernel_rfl) trivial fun a w h => then_normal (wp_ret (then_ret ?_))
   exact at_return (([] : List Int), ()) [] h (by kernel_rfl) trivial (congrArg (fun z => (z, ())) (show (([] : List Int)) = addV x0 x1 x2 from by (unfold addV; first | (have hl : List.length x0 = List.length x1 := (l5P_t (by assumption)).2.2; rw [if_pos ⟨l5P_t (by assumption), by assumption⟩, take_all (by rw [LA.addS_len hl]; omega)]; done) | (rw [if_neg (fun e => by have := l5P_of e.1; simp_all)]; done))))
  ·replace h2 : (isEl x2) = true := notF h2
   have hvh2 := isEl_t h2
   refine wp_skip (then_normal (wp_seq (wp_seq ?_)))
   refine at_regq [] { ts := [0, 1, 2, 6, 7, 8], os := [1] } [] gamOK hT h (by kernel_rfl) trivial fun a w h => then_normal (wp_block ?_)
   replace h := at_out (σ' := ⟨[(0, aF (.int 3) x0), (1, aF (.int 3) x1), (2, aI x2), (6, .p (.c (cN))), (7, aS 1), (8, aI 0)], [(1, oR (.int 3) ([] : List Int))]⟩) { ts := [0, 1, 2, 6, 7, 8], os := [1] } h (by kernel_rfl)
   refine at_loop (fun i : Nat => (⟨[(0, aF (.int 3) x0), (1, aF (.int 3) x1), (2, aI x2), (6, .p (.c (cN))), (7, aS 1), (8, aI ((i : Nat) : Int))], [(1, oR (.int 3) (List.take i (LA.addS x0 x1 x2)))]⟩ : St)) (fun i => i ≤ List.length x0) (fun i => List.length x0 - i) (0) h (st_congr2 (fun (d0 : List Int) (d1 : Int) => (⟨[(0, aF (.int 3) x0), (1, aF (.int 3) x1), (2, aI x2), (6, .p (.c (cN))), (7, aS 1), (8, aI d1)], [(1, oR (.int 3) d0)]⟩ : St)) (show (([] : List Int) : List Int) = (List.take (0) (LA.addS x0 x1 x2)) from by first | with_reducible rfl | (rfl) | rfl) (show (0 : Int) = (((0) : Nat) : Int) from by first | with_reducible rfl | (rfl) | rfl)) (by omega) ?_
   intro i a w hok0 h
   have hlt := addS_take_le x0 x1 x2 i
   refine wp_seq (wp_seq ?_)
   refine at_regq [] { ts := [0, 1, 2, 6, 7, 8, 23], os := [1] } [] gamOK hT h (by kernel_rfl) trivial fun a w h => then_normal ?_
   refine at_test (decide (((i : Nat) : Int) < ((List.length x0 : Nat) : Int))) h (by kernel_rfl) (fun h3 => ?_) (fun h3 => ?_)
   ·replace h3 : ((i : Nat) : Int) < ((List.length x0 : Nat) : Int) := of_decide_eq_true h3
    have hx1 := (l5P_v (a := x0) (b := x1) (by assumption)).2.1 i
    have hx2 := (l5P_v (a := x0) (b := x1) (by assumption)).2.2 i
    refine wp_skip (then_normal (wp_seq (wp_block ?_)))
    refine at_anyq [{}, {}, {}, {}, {}, {}, {}, {}, {}, {}, { nw := true }, { nw := true }, {}, { ids := [2] }, { ids := [3] }, {}] { ts := [0, 1, 2, 6, 7, 8], os := [3] } [(0 : Int) ≤ ((i : Nat) : Int) ∧ ((i : Nat) : Int) < ((List.length x0 : Nat) : Int), (0 : Int) ≤ ((i : Nat) : Int) ∧ ((i : Nat) : Int) < ((List.length x1 : Nat) : Int), I64 ((x1.getD i 0) * x2), I64 ((x0.getD i 0) + ((x1.getD i 0) * x2)), (1019 : Int) ≠ 0, (List.length (List.take i (LA.addS x0 x1 x2)) + List.length ([(Int.tmod ((x0.getD i 0) + ((x1.getD i 0) * x2)) 1019)])) * 8 ≤ 140737488355328] gamOK hT mixed h (by kernel_rfl) ⟨(by refine ⟨?_, ?_⟩ <;> (first | omega | (simp only [lsA]; omega) | (simp <;> omega))), (by refine ⟨?_, ?_⟩ <;> (first | omega | (simp only [lsA]; omega) | (simp <;> omega))), ⟨by (have hA0 := mul_f (x1.getD i 0) x2; first | omega | (simp only [lsA]; omega) | (simp <;> omega)), by (have hA0 := mul_f (x1.getD i 0) x2; first | omega | (simp only [lsA]; omega) | (simp <;> omega))⟩, ⟨by (have hA0 := mul_f (x1.getD i 0) x2; first | omega | (simp only [lsA]; omega) | (simp <;> omega)), by (have hA0 := mul_f (x1.getD i 0) x2; first | omega | (simp only [lsA]; omega) | (simp <;> omega))⟩, (by first | omega | (simp only [lsA]; omega) | (simp <;> omega)), (by (have hA0 := mul_f (x1.getD i 0) x2; have hA1 := tmod_f ((x0.getD i 0) + ((x1.getD i 0) * x2)) 1019; have hL2 := (show List.length (List.take i (LA.addS x0 x1 x2)) ≤ 1073741824 from ((Sh.fit_take (Sh.fit_len (t := 27) (s := .int 3) rfl (by simp [LA.addS]; omega)) i)).1); first | omega | (simp only [lsA]; omega) | (simp <;> omega))), trivial⟩ fun a w h => in_normal (then_normal ?_)
    refine at_regq [{}, { nw := true }] { ts := [0, 1, 2, 6, 7, 8], os := [3] } [I64 (((i : Nat) : Int) + 1)] gamOK hT h (by kernel_rfl) ⟨⟨by first | omega | (simp only [lsA]; omega) | (simp <;> omega), by first | omega | (simp only [lsA]; omega) | (simp <;> omega)⟩, trivial⟩ fun a w h => ?_
    replace h := at_out (σ' := ⟨[(0, aF (.int 3) x0), (1, aF (.int 3) x1), (2, aI x2), (6, .p (.c (cN))), (7, aS 1), (8, aI (((i : Nat) : Int) + 1))], [(1, oR (.int 3) ((List.take i (LA.addS x0 x1 x2)) ++ ([(Int.tmod ((x0.getD i 0) + ((x1.getD i 0) * x2)) 1019)])))]⟩) { ts := [0, 1, 2, 6, 7, 8], os := [3], rn := [(3, 1)] } h (by kernel_rfl)
    exact ⟨i + 1, at_eq h (st_congr2 (fun (d0 : List Int) (d1 : Int) => (⟨[(0, aF (.int 3) x0), (1, aF (.int 3) x1), (2, aI x2), (6, .p (.c (cN))), (7, aS 1), (8, aI d1)], [(1, oR (.int 3) d0)]⟩ : St)) (show (((List.take i (LA.addS x0 x1 x2)) ++ ([(Int.tmod ((x0.getD i 0) + ((x1.getD i 0) * x2)) 1019)])) : List Int) = (List.take (i + 1) (LA.addS x0 x1 x2)) from by first | with_reducible rfl | ((have hl : List.length x0 = List.length x1 := (l5P_t (by assumption)).2.2; rw [take_snoc (z := 0) (by rw [LA.addS_len hl]; omega), LA.addS_at hl, Int.mul_comm]; done)) | rfl) (show (((i : Nat) : Int) + 1 : Int) = (((i + 1) : Nat) : Int) from by first | with_reducible rfl | (omega) | rfl)), (by omega), (by omega)⟩
   ·replace h3 : ¬ (((i : Nat) : Int) < ((List.length x0 : Nat) : Int)) := of_decide_eq_false h3
    refine wp_exit (then_exit (then_exit (in_hit (then_normal (wp_seq ?_)))))
    refine at_regq [] { ts := [6], os := [1] } [] gamOK hT h (by kernel_rfl) trivial fun a w h => then_normal (wp_ret ?_)
    exact at_return ((List.take i (LA.addS x0 x1 x2)), ()) [] h (by kernel_rfl) trivial (congrArg (fun z => (z, ())) (show ((List.take i (LA.addS x0 x1 x2))) = addV x0 x1 x2 from by (unfold addV; first | (have hl : List.length x0 = List.length x1 := (l5P_t (by assumption)).2.2; rw [if_pos ⟨l5P_t (by assumption), by assumption⟩, take_all (by rw [LA.addS_len hl]; omega)]; done) | (rw [if_neg (fun e => by have := l5P_of e.1; simp_all)]; done))))

abbrev Q_spec_l6Copy := (fun (x0 : (List (List Int))) => Sh.fit s44 x0)
def S_spec_l6Copy : Sum := { fid := 71, dom := [s44], cod := [s44], dp := false, fz := false, pre := fun x => Q_spec_l6Copy x.1, g := fun x => (((idD s44) x.1), ()) }
def S_spec_l6Copy_tab : List (Nat × Sum) := []
theorem S_spec_l6Copy_ok : FnOK Tryd.prog 71 S_spec_l6Copy := by
 refine at_enter 22 (fun x => ⟨[(0, aF s27 x.1)], []⟩) Tryd.func71 rfl (by kernel_rfl) (fun x => rfl) ?_
 rintro w0 Z0 ⟨x0, u⟩ a w
 revert x0
 intro (x0 : (List (List Int))) hpre hlens h
 replace hpre : Q_spec_l6Copy x0 := hpre
 have hT : TabOK Tryd.prog w0 [] S_spec_l6Copy_tab := .nil
 have hf0 : Sh.fit s44 x0 := hpre
 have hn0_1 : List.length x0 ≤ 1073741824 := hf0.1
 refine wp_seq ?_
 refine at_regq [] { ts := [0, 2], os := [] } [] gamOK hT h (by kernel_rfl) trivial fun a w h => then_normal (wp_seq ?_)
 refine at_regq [{ ids := [1], dp := false }] { ts := [0, 2, 3], os := [1] } [] gamOK hT h (by kernel_rfl) trivial fun a w h => then_normal (wp_seq (wp_seq ?_))
 refine at_regq [] { ts := [0, 2, 3, 4], os := [1] } [] gamOK hT h (by kernel_rfl) trivial fun a w h => then_normal (wp_block ?_)
 replace h := at_out (σ' := ⟨[(0, aF s27 x0), (2, .p (.c (cN))), (3, aS 1), (4, aI 0)], [(1, oF s27 ([] : List (List Int)))]⟩) { ts := [0, 2, 3, 4], os := [1] } h (by kernel_rfl)
 refine at_loop (fun i : Nat => (⟨[(0, aF s27 x0), (2, .p (.c (cN))), (3, aS 1), (4, aI ((i : Nat) : Int))], [(1, oF s27 (List.take i x0))]⟩ : St)) (fun i => i ≤ List.length x0) (fun i => List.length x0 - i) (0) h (st_congr2 (fun (d0 : List (List Int)) (d1 : Int) => (⟨[(0, aF s27 x0), (2, .p (.c (cN))), (3, aS 1), (4, aI d1)], [(1, oF s27 d0)]⟩ : St)) (show (([] : List (List Int)) : List (List Int)) = (List.take (0) x0) from by first | with_reducible rfl | (rfl) | rfl) (show (0 : Int) = (((0) : Nat) : Int) from by first | with_reducible rfl | (rfl) | rfl)) (by omega) ?_
 intro i a w hok0 h
 have hlt := len_take_le (xs := x0) i
 have hrw := (Sh.fit_getD hf0 i).1
 refine wp_seq (wp_seq ?_)
 refine at_regq [] { ts := [0, 2, 3, 4, 9], os := [1] } [] gamOK hT h (by kernel_rfl) trivial fun a w h => then_normal ?_
 refine at_test (decide (((i : Nat) : Int) < ((List.length x0 : Nat) : Int))) h (by kernel_rfl) (fun h1 => ?_) (fun h1 => ?_)
 ·replace h1 : ((i : Nat) : Int) < ((List.length x0 : Nat) : Int) := of_decide_eq_true h1
  refine wp_skip (then_normal (wp_seq (wp_block ?_)))
  refine at_regq [{}, { ids := [2], dp := false }, {}, {}, {}, {}, { ids := [3], frz := true, dp := false }, { ids := [4], dp := false }, { ids := [5], dp := false }] { ts := [0, 2, 3, 4], os := [5] } [(0 : Int) ≤ ((i : Nat) : Int) ∧ ((i : Nat) : Int) < ((List.length x0 : Nat) : Int), (List.length ([] : List Int) + List.length (x0.getD i [])) * 8 ≤ 140737488355328, (List.length (List.take i x0) + List.length ([(([] : List Int) ++ (x0.getD i []))])) * 24 ≤ 140737488355328] gamOK hT h (by kernel_rfl) ⟨(by refine ⟨?_, ?_⟩ <;> (first | omega | (simp only [lsA]; omega) | (simp <;> omega))), (by (have hL0 := (show List.length (x0.getD i []) ≤ 1073741824 from ((Sh.fit_getD hf0 i)).1); first | omega | (simp only [lsA]; omega) | (simp <;> omega))), (by (have hL0 := (show List.length (List.take i x0) ≤ 1073741824 from ((Sh.fit_take hf0 i)).1); first | omega | (simp only [lsA]; omega) | (simp <;> omega))), trivial⟩ fun a w h => in_normal (then_normal ?_)
  refine at_regq [{}, { nw := true }] { ts := [0, 2, 3, 4], os := [5] } [I64 (((i : Nat) : Int) + 1)] gamOK hT h (by kernel_rfl) ⟨⟨by first | omega | (simp only [lsA]; omega) | (simp <;> omega), by first | omega | (simp only [lsA]; omega) | (simp <;> omega)⟩, trivial⟩ fun a w h => ?_
  replace h := at_out (σ' := ⟨[(0, aF s27 x0), (2, .p (.c (cN))), (3, aS 1), (4, aI (((i : Nat) : Int) + 1))], [(1, oF s27 ((List.take i x0) ++ ([(([] : List Int) ++ (x0.getD i []))])))]⟩) { ts := [0, 2, 3, 4], os := [5], rn := [(5, 1)] } h (by kernel_rfl)
  exact ⟨i + 1, at_eq h (st_congr2 (fun (d0 : List (List Int)) (d1 : Int) => (⟨[(0, aF s27 x0), (2, .p (.c (cN))), (3, aS 1), (4, aI d1)], [(1, oF s27 d0)]⟩ : St)) (show (((List.take i x0) ++ ([(([] : List Int) ++ (x0.getD i []))])) : List (List Int)) = (List.take (i + 1) x0) from by first | with_reducible rfl | (first | (rw [take_snoc (z := []) (by omega)]; done) | (rw [take_snoc (z := []) (by omega)]; rfl)) | rfl) (show (((i : Nat) : Int) + 1 : Int) = (((i + 1) : Nat) : Int) from by first | with_reducible rfl | (omega) | rfl)), (by omega), (by omega)⟩
 ·replace h1 : ¬ (((i : Nat) : Int) < ((List.length x0 : Nat) : Int)) := of_decide_eq_false h1
  refine wp_exit (then_exit (then_exit (in_hit (then_normal (wp_seq ?_)))))
  refine at_regq [] { ts := [2], os := [1] } [] gamOK hT h (by kernel_rfl) trivial fun a w h => then_normal (wp_ret ?_)
  exact at_return ((List.take i x0), ()) [] h (by kernel_rfl) trivial (congrArg (fun z => (z, ())) (show ((List.take i x0)) = (idD s44) x0 from by (rw [take_all (by omega)]; rfl)))

def validM (x0 : (List (List Int))) : Bool := (if (List.all x0 (fun r => validV r && decide (List.length r = List.length (x0.getD 0 [])))) = true then decide (((List.length x0 : Nat) : Int) ≤ 40) else false)
abbrev Q_spec_IsValidMatrix := (fun (x0 : (List (List Int))) => Sh.fit s44 x0)
def S_spec_IsValidMatrix : Sum := { fid := 58, dom := [s44], cod := [(.bool 4)], dp := true, fz := false, pre := fun x => Q_spec_IsValidMatrix x.1, g := fun x => ((validM x.1), ()) }
def S_spec_IsValidMatrix_tab : List (Nat × Sum) := [(46, S_spec_IsValidVector)]
theorem S_spec_IsValidMatrix_ok : FnOK Tryd.prog 58 S_spec_IsValidMatrix := by
 refine at_enter 31 (fun x => ⟨[(0, aF s27 x.1)], []⟩) Tryd.func58 rfl (by kernel_rfl) (fun x => rfl) ?_
 rintro w0 Z0 ⟨x0, u⟩ a w
 revert x0
 intro (x0 : (List (List Int))) hpre hlens h
 replace hpre : Q_spec_IsValidMatrix x0 := hpre
 have hT : TabOK Tryd.prog w0 [] S_spec_IsValidMatrix_tab := (.cons S_spec_IsValidVector_ok .nil)
 have hf0 : Sh.fit s44 x0 := hpre
 have hn0_1 : List.length x0 ≤ 1073741824 := hf0.1
 refine wp_seq ?_
 refine at_regq [] { ts := [0, 2], os := [] } [] gamOK hT h (by kernel_rfl) trivial fun a w h => then_normal (wp_seq (wp_seq ?_))
 refine at_regq [] { ts := [0, 2, 3], os := [] } [] gamOK hT h (by kernel_rfl) trivial fun a w h => then_normal (wp_block ?_)
 replace h := at_out (σ' := ⟨[(0, aF s27 x0), (2, aB false), (3, aI 0)], []⟩) { ts := [0, 2, 3], os := [] } h (by kernel_rfl)
 refine at_loop (fun i : Nat => (⟨[(0, aF s27 x0), (2, aB false), (3, aI ((i : Nat) : Int))], []⟩ : St)) (fun i => (i ≤ List.length x0 ∧ allTo1 (fun r => validV r && decide (List.length r = List.length (x0.getD 0 []))) x0 [] i)) (fun i => List.length x0 - i) (0) h (st_congr1 (fun (d0 : Int) => (⟨[(0, aF s27 x0), (2, aB false), (3, aI d0)], []⟩ : St)) (show (0 : Int) = (((0) : Nat) : Int) from by first | with_reducible rfl | (rfl) | rfl)) (by exact ⟨Nat.zero_le _, allTo1_zero⟩) ?_
 intro i a w hok0 h
 refine wp_seq (wp_seq ?_)
 refine at_regq [] { ts := [0, 2, 3, 7], os := [] } [] gamOK hT h (by kernel_rfl) trivial fun a w h => then_normal ?_
 refine at_test (decide (((i : Nat) : Int) < ((List.length x0 : Nat) : Int))) h (by kernel_rfl) (fun h1 => ?_) (fun h1 => ?_)
 ·replace h1 : ((i : Nat) : Int) < ((List.length x0 : Nat) : Int) := of_decide_eq_true h1
  refine wp_skip (then_normal (wp_seq (wp_block (wp_seq ?_))))
  rcases Bool.eq_false_or_eq_true (!(validV (x0.getD i []))) with h2 | h2
  ·have hzh2 : (validV (x0.getD i [])) = false := notT h2
   refine at_anyq [{}, {}, {}, {}, {}, { hint := some (aB true) }, {}, {}, {}, {}, {}, {}, {}, {}, {}, {}, {}, {}] { ts := [0, 2, 3, 17, 18, 19, 20, 21, 22, 23, 24, 25, 26, 27], os := [] } [(0 : Int) ≤ ((i : Nat) : Int) ∧ ((i : Nat) : Int) < ((List.length x0 : Nat) : Int), Q_spec_IsValidVector (x0.getD i []), (AV.p (.c (.v (.bool (!(validV (x0.getD i [])))))) = AV.p (.c (.v (.bool true))))] gamOK hT mixed h (by kernel_rfl) ⟨(by refine ⟨?_, ?_⟩ <;> (first | omega | (simp only [lsA]; omega) | (simp <;> omega))), (by exact (Sh.fit_getD hf0 i)), hint_bool (h2), trivial⟩ fun a w h => then_normal ?_
   refine at_test true h (by kernel_rfl) (fun hh => ?_) (fun hh => nomatch hh)
   refine wp_seq ?_
   refine at_regq [] { ts := [0, 2, 3, 17, 18, 19, 20, 21, 22, 23, 24, 25, 26], os := [] } [] gamOK hT h (by kernel_rfl) trivial fun a w h => then_normal (wp_ret (in_ret (then_ret ?_)))
   have hs3 : (List.all x0 (fun r => validV r && decide (List.length r = List.length (x0.getD 0 [])))) = false := by exact all_at (z := []) (i := i) (by omega) (by (show ((validV _) && _) = false; rw [Bool.and_eq_false_iff]; first | (left; assumption) | (right; exact decide_eq_false (by omega))))
   refine then_ret (in_ret (then_ret ?_))
   exact at_return (false, ()) [] h (by kernel_rfl) trivial (congrArg (fun z => (z, ())) (show (false) = validM x0 from by first | rfl | (unfold validM; rw [if_neg (neT hs3)])))
  ·have hzh2 : (validV (x0.getD i [])) = true := notF h2
   have hvh2 := validV_t (notF h2)
   refine at_anyq [{}, {}, {}, {}, {}, { hint := some (aB false) }, {}, {}, {}, {}, {}, {}, {}, {}, {}, {}, {}, {}] { ts := [0, 2, 3, 17, 18, 19, 20, 21, 22, 23, 24, 25, 26, 27], os := [] } [(0 : Int) ≤ ((i : Nat) : Int) ∧ ((i : Nat) : Int) < ((List.length x0 : Nat) : Int), Q_spec_IsValidVector (x0.getD i []), (AV.p (.c (.v (.bool (!(validV (x0.getD i [])))))) = AV.p (.c (.v (.bool false)))), (0 : Int) ≤ ((i : Nat) : Int) ∧ ((i : Nat) : Int) < ((List.length x0 : Nat) : Int), (0 : Int) ≤ 0 ∧ 0 < ((List.length x0 : Nat) : Int)] gamOK hT mixed h (by kernel_rfl) ⟨(by refine ⟨?_, ?_⟩ <;> (first | omega | (simp only [lsA]; omega) | (simp <;> omega))), (by exact (Sh.fit_getD hf0 i)), hint_bool (h2), (by refine ⟨?_, ?_⟩ <;> (first | omega | (simp only [lsA]; omega) | (simp <;> omega))), (by refine ⟨?_, ?_⟩ <;> (first | omega | (simp only [lsA]; omega) | (simp <;> omega))), trivial⟩ fun a w h => then_normal ?_
   refine at_test (!decide (((List.length (x0.getD i []) : Nat) : Int) = ((List.length (x0.getD 0 []) : Nat) : Int))) h (by kernel_rfl) (fun h4 => ?_) (fun h4 => ?_)
   ·replace h4 : ¬ (((List.length (x0.getD i []) : Nat) : Int) = ((List.length (x0.getD 0 []) : Nat) : Int)) := of_decide_eq_false (notT h4)
    refine wp_seq ?_
    refine at_regq [] { ts := [0, 2, 3, 17, 18, 19, 20, 21, 22, 23, 24, 25, 26], os := [] } [] gamOK hT h (by kernel_rfl) trivial fun a w h => then_normal (wp_ret (in_ret (then_ret ?_)))
    have hs5 : (List.all x0 (fun r => validV r && decide (List.length r = List.length (x0.getD 0 [])))) = false := by exact all_at (z := []) (i := i) (by omega) (by (show ((validV _) && _) = false; rw [Bool.and_eq_false_iff]; first | (left; assumption) | (right; exact decide_eq_false (by omega))))
    refine then_ret (in_ret (then_ret ?_))
    exact at_return (false, ()) [] h (by kernel_rfl) trivial (congrArg (fun z => (z, ())) (show (false) = validM x0 from by first | rfl | (unfold validM; rw [if_neg (neT hs5)])))
   ·replace h4 : ((List.length (x0.getD i []) : Nat) : Int) = ((List.length (x0.getD 0 []) : Nat) : Int) := of_decide_eq_true (notF h4)
    refine wp_skip (in_normal (then_normal ?_))
    refine at_regq [{}, { nw := true }] { ts := [0, 2, 3, 17, 18, 19, 20, 21, 22, 23, 24, 25, 26], os := [] } [I64 (((i : Nat) : Int) + 1)] gamOK hT h (by kernel_rfl) ⟨⟨by first | omega | (simp only [lsA]; omega) | (simp <;> omega), by first | omega | (simp only [lsA]; omega) | (simp <;> omega)⟩, trivial⟩ fun a w h => ?_
    replace h := at_out (σ' := ⟨[(0, aF s27 x0), (2, aB false), (3, aI (((i : Nat) : Int) + 1))], []⟩) { ts := [0, 2, 3], os := [] } h (by kernel_rfl)
    exact ⟨i + 1, at_eq h (st_congr1 (fun (d0 : Int) => (⟨[(0, aF s27 x0), (2, aB false), (3, aI d0)], []⟩ : St)) (show (((i : Nat) : Int) + 1 : Int) = (((i + 1) : Nat) : Int) from by first | with_reducible rfl | (omega) | rfl)), (by exact ⟨by omega, allTo1_succ hok0.2 (by (show ((validV _) && _) = true; rw [Bool.and_eq_true]; exact ⟨by assumption, decide_eq_true (by omega)⟩))⟩), (by omega)⟩
 ·replace h1 : ¬ (((i : Nat) : Int) < ((List.length x0 : Nat) : Int)) := of_decide_eq_false h1
  refine wp_exit (then_exit ?_)
  have hs6 : (List.all x0 (fun r => validV r && decide (List.length r = List.length (x0.getD 0 [])))) = true := by exact all_of (z := []) (i := i) (by omega) hok0.2
  refine then_exit (in_hit (then_normal (wp_seq ?_)))
  refine at_regq [] { ts := [2], os := [] } [] gamOK hT h (by kernel_rfl) trivial fun a w h => then_normal (wp_ret ?_)
  exact at_return (decide (((List.length x0 : Nat) : Int) ≤ 40), ()) [] h (by kernel_rfl) trivial (congrArg (fun z => (z, ())) (show (decide (((List.length x0 : Nat) : Int) ≤ 40)) = validM x0 from by first | rfl | (unfold validM; rw [if_pos hs6])))
theorem validM_t {m : List (List Int)} (h : validM m = true) : List.length m ≤ 40 ∧ (∀ r ∈ m, validV r = true ∧ List.length r = List.length (m.getD 0 [])) := by
 unfold validM at h
 split at h
 ·rename_i ha
  have := of_decide_eq_true h
  refine ⟨by omega, fun r hr => ?_⟩
  have := List.all_eq_true.1 ha r hr
  rw [Bool.and_eq_true] at this
  exact ⟨this.1, of_decide_eq_true this.2⟩
 ·cases h
theorem validM_ok {m : List (List Int)} (h : validM m = true) : ∀ r ∈ m, LA.VokB (List.length (m.getD 0 [])) r := fun r hr => ⟨((validM_t h).2 r hr).2, (validV_t ((validM_t h).2 r hr).1).2.1⟩
theorem validM_at {m : List (List Int)} (h : validM m = true) (j : Nat) (hj : j < m.length) : List.length (m.getD j []) = List.length (m.getD 0 []) := ((validM_t h).2 _ (getD_mem hj)).2

def colsOf (x0 : (List (List Int))) : Int := (if ((List.length x0 : Nat) : Int) = 0 then 0 else ((List.length (x0.getD 0 []) : Nat) : Int))
abbrev Q_spec_ColumnsOf := (fun (x0 : (List (List Int))) => Sh.fit s44 x0)
def S_spec_ColumnsOf : Sum := { fid := 59, dom := [s44], cod := [(.int 3)], dp := true, fz := false, pre := fun x => Q_spec_ColumnsOf x.1, g := fun x => ((colsOf x.1), ()) }
def S_spec_ColumnsOf_tab : List (Nat × Sum) := []
theorem S_spec_ColumnsOf_ok : FnOK Tryd.prog 59 S_spec_ColumnsOf := by
 refine at_enter 10 (fun x => ⟨[(0, aF s27 x.1)], []⟩) Tryd.func59 rfl (by kernel_rfl) (fun x => rfl) ?_
 rintro w0 Z0 ⟨x0, u⟩ a w
 revert x0
 intro (x0 : (List (List Int))) hpre hlens h
 replace hpre : Q_spec_ColumnsOf x0 := hpre
 have hT : TabOK Tryd.prog w0 [] S_spec_ColumnsOf_tab := .nil
 have hf0 : Sh.fit s44 x0 := hpre
 have hn0_1 : List.length x0 ≤ 1073741824 := hf0.1
 refine wp_seq ?_
 refine at_regq [] { ts := [0, 2], os := [] } [] gamOK hT h (by kernel_rfl) trivial fun a w h => then_normal (wp_seq (wp_seq ?_))
 refine at_regq [] { ts := [0, 2, 5], os := [] } [] gamOK hT h (by kernel_rfl) trivial fun a w h => then_normal ?_
 refine at_test (decide (((List.length x0 : Nat) : Int) = 0)) h (by kernel_rfl) (fun h1 => ?_) (fun h1 => ?_)
 ·replace h1 : ((List.length x0 : Nat) : Int) = 0 := of_decide_eq_true h1
  refine wp_seq ?_
  refine at_regq [] { ts := [0, 2], os := [] } [] gamOK hT h (by kernel_rfl) trivial fun a w h => then_normal (wp_ret (then_ret ?_))
  exact at_return (0, ()) [] h (by kernel_rfl) trivial (congrArg (fun z => (z, ())) (show (0) = colsOf x0 from by first | rfl | (unfold colsOf; rw [if_pos h1])))
 ·replace h1 : ¬ (((List.length x0 : Nat) : Int) = 0) := of_decide_eq_false h1
  refine wp_skip (then_normal (wp_seq ?_))
  refine at_regq [] { ts := [2], os := [] } [(0 : Int) ≤ 0 ∧ 0 < ((List.length x0 : Nat) : Int)] gamOK hT h (by kernel_rfl) ⟨(by refine ⟨?_, ?_⟩ <;> (first | omega | (simp only [lsA]; omega) | (simp <;> omega))), trivial⟩ fun a w h => then_normal (wp_ret ?_)
  exact at_return (((List.length (x0.getD 0 []) : Nat) : Int), ()) [] h (by kernel_rfl) trivial (congrArg (fun z => (z, ())) (show (((List.length (x0.getD 0 []) : Nat) : Int)) = colsOf x0 from by first | rfl | (unfold colsOf; rw [if_neg h1])))

theorem fitV {n : Nat} {v : List Int} (h : LA.VokB n v) (hn : n ≤ 40) : Sh.fit s27 v := Sh.fit_len rfl (by have := h.1; omega)
theorem fitM {n : Nat} {m : List (List Int)} (h : ∀ r ∈ m, LA.VokB n r) (hn : n ≤ 40) (hm : List.length m ≤ 1073741824) : Sh.fit s44 m := ⟨hm, fun r hr => fitV (h r hr) hn⟩
theorem validV_of {n : Nat} {v : List Int} (h : LA.VokB n v) (hn : n ≤ 40) : validV v = true := by
 unfold validV
 rw [if_pos (show List.all v isEl = true from List.all_eq_true.2 fun x hx => inR_true (h.2 x hx))]
 exact decide_eq_true (by have := h.1; omega)
theorem addV_L {n : Nat} {a b : List Int} {k : Int} (ha : LA.VokB n a) (hb : LA.VokB n b) (hn : n ≤ 40) (hk : 0 ≤ k ∧ k ≤ 1018) : addV a b k = LA.addS a b k := addV_ok (validV_of ha hn) (validV_of hb hn) (by rw [ha.1, hb.1]) hk
def l7P (m : List (List Int)) (n : Int) : Prop := ∃ w : Nat, (∀ r ∈ m, LA.VokB w r) ∧ w ≤ 40 ∧ 0 ≤ n ∧ n ≤ (w : Int)
theorem l7_lead {w k p : Nat} {R : List (List Int)} (h : ∀ r ∈ R, LA.VokB w r) (hw : w ≤ 40) (hp : p < R.length) (hz : LA.ent R p k ≠ 0) : scaleV (R.getD p []) (invF ((R.getD p []).getD k 0)) = LA.gjLead R p k := by
 have hv := h _ (LA.getD_in hp)
 rw [scaleV_ok (validV_of hv hw) (invF_bd _), invF_el (hv.rng k)]; rfl
theorem l7_cols {m : List (List Int)} : (colsOf m).toNat = List.length (m.getD 0 []) := by
 unfold colsOf
 split
 ·rename_i h; rw [show m = [] from List.eq_nil_of_length_eq_zero (by omega)]; rfl
 ·exact Int.toNat_natCast _
theorem l7_w {m : List (List Int)} (h : validM m = true) : List.length (m.getD 0 []) ≤ 40 := by
 rcases Nat.eq_zero_or_pos m.length with h0 | h0
 ·rw [List.eq_nil_of_length_eq_zero h0]; decide
 ·exact (validV_t ((validM_t h).2 _ (getD_mem h0)).1).1
theorem l7P_of {m : List (List Int)} (h : validM m = true) : l7P m (colsOf m) := by
 have hc := l7_cols (m := m)
 refine ⟨List.length (m.getD 0 []), validM_ok h, l7_w h, ?_, ?_⟩
 ·unfold colsOf; split <;> omega
 ·rw [← hc]; have : 0 ≤ colsOf m := by unfold colsOf; split <;> omega
  omega
def D_spec_l7Reduce := (fun (m : List (List Int)) (n : Int) => LA.gjS m n.toNat)
abbrev Q_spec_l7Reduce := (fun (x0 : (List (List Int))) (x1 : Int) => Sh.fit s44 x0 ∧ l7P x0 x1)
def S_spec_l7Reduce : Sum := { fid := 70, dom := [s44, (.int 3)], cod := [s44], dp := false, fz := false, pre := fun x => Q_spec_l7Reduce x.1 x.2.1, g := fun x => ((D_spec_l7Reduce x.1 x.2.1), ()) }
def S_spec_l7Reduce_tab : List (Nat × Sum) := [(71, S_spec_l6Copy), (73, S_spec_InverseField), (72, S_spec_ScaleVector), (60, S_spec_AddScaled)]
theorem S_spec_l7Reduce_ok : FnOK Tryd.prog 70 S_spec_l7Reduce := by
 refine at_enter 110 (fun x => ⟨[(0, aF s27 x.1), (1, aI x.2.1)], []⟩) Tryd.func70 rfl (by kernel_rfl) (fun x => rfl) ?_
 rintro w0 Z0 ⟨x0, x1, u⟩ a w
 revert x0 x1
 intro (x0 : (List (List Int))) (x1 : Int) hpre hlens h
 replace hpre : Q_spec_l7Reduce x0 x1 := hpre
 have hT : TabOK Tryd.prog w0 [] S_spec_l7Reduce_tab := (.cons S_spec_l6Copy_ok (.cons S_spec_InverseField_ok (.cons S_spec_ScaleVector_ok (.cons S_spec_AddScaled_ok .nil))))
 obtain ⟨hf0, hpx⟩ := hpre
 have hn0_1 : List.length x0 ≤ 1073741824 := hf0.1
 obtain ⟨w_, hw1, hw2, hw3, hw4⟩ := hpx
 refine wp_seq ?_
 refine at_regq [] { ts := [0, 1, 4], os := [] } [] gamOK hT h (by kernel_rfl) trivial fun a w h => then_normal (wp_seq ?_)
 refine at_regq [{}, { ids := [1] }] { ts := [1, 4, 5], os := [1] } [Q_spec_l6Copy x0] gamOK hT h (by kernel_rfl) ⟨(by exact hf0), trivial⟩ fun a w h => then_normal (wp_seq ?_)
 refine at_regq [] { ts := [1, 4, 5, 6], os := [1] } [] gamOK hT h (by kernel_rfl) trivial fun a w h => then_normal (wp_seq (wp_seq ?_))
 refine at_regq [] { ts := [1, 4, 5, 6, 7], os := [1] } [] gamOK hT h (by kernel_rfl) trivial fun a w h => then_normal (wp_block ?_)
 replace h := at_out (σ' := ⟨[(1, aI x1), (4, .p (.c (cN))), (5, aS 1), (6, aI 0), (7, aI 0)], [(1, oF s27 x0)]⟩) { ts := [1, 4, 5, 6, 7], os := [1] } h (by kernel_rfl)
 refine at_loop (fun k : Nat => (⟨[(1, aI x1), (4, .p (.c (cN))), (5, aS 1), (6, aI (((LA.gjAt x0 k).2 : Nat) : Int)), (7, aI ((k : Nat) : Int))], [(1, oF s27 (LA.gjAt x0 k).1)]⟩ : St)) (fun k => k ≤ x1.toNat) (fun k => x1.toNat - k) (0) h (st_congr3 (fun (d0 : List (List Int)) (d1 : Int) (d2 : Int) => (⟨[(1, aI x1), (4, .p (.c (cN))), (5, aS 1), (6, aI d1), (7, aI d2)], [(1, oF s27 d0)]⟩ : St)) (show (x0 : List (List Int)) = (LA.gjAt x0 (0)).1 from by first | with_reducible rfl | (rfl) | rfl) (show (0 : Int) = (((LA.gjAt x0 (0)).2 : Nat) : Int) from by first | with_reducible rfl | (rfl) | rfl) (show (0 : Int) = (((0) : Nat) : Int) from by first | with_reducible rfl | (rfl) | rfl)) (by omega) ?_
 intro k a w hok0 h
 have hgv := (LA.gj_inv hw1 k).1
 have hgn := (LA.gj_inv hw1 k).2.1
 have hgl := LA.gjAt_le x0 k
 refine wp_seq (wp_seq ?_)
 by_cases h1 : ((k : Nat) : Int) < x1
 ·refine at_regq [{}, {}, { hint := some (aB true) }] { ts := [1, 4, 5, 6, 7, 17, 18, 19, 20, 21], os := [1] } [(AV.p (.c (.v (.bool (decide (((k : Nat) : Int) < x1))))) = AV.p (.c (.v (.bool true))))] gamOK hT h (by kernel_rfl) ⟨hint_bool (decide_eq_true h1), trivial⟩ fun a w h => then_normal ?_
  refine at_test (decide ((((LA.gjAt x0 k).2 : Nat) : Int) < ((List.length (LA.gjAt x0 k).1 : Nat) : Int))) h (by kernel_rfl) (fun h2 => ?_) (fun h2 => ?_)
  ·replace h2 : (((LA.gjAt x0 k).2 : Nat) : Int) < ((List.length (LA.gjAt x0 k).1 : Nat) : Int) := of_decide_eq_true h2
   have hat : (LA.gjAt x0 k).2 < List.length (LA.gjAt x0 k).1 := by omega
   refine wp_skip (then_normal (wp_seq (wp_block (wp_seq ?_))))
   refine at_regq [] { ts := [1, 4, 5, 6, 7, 8, 17, 18, 19, 20], os := [1] } [] gamOK hT h (by kernel_rfl) trivial fun a w h => then_normal (wp_seq (wp_block ?_))
   replace h := at_out (σ' := ⟨[(1, aI x1), (4, .p (.c (cN))), (5, aS 1), (6, aI (((LA.gjAt x0 k).2 : Nat) : Int)), (7, aI ((k : Nat) : Int)), (8, aI (((LA.gjAt x0 k).2 : Nat) : Int)), (17, aI (((LA.gjAt x0 k).2 : Nat) : Int)), (18, aS 1), (19, aI ((List.length (LA.gjAt x0 k).1 : Nat) : Int)), (20, aB (decide ((((LA.gjAt x0 k).2 : Nat) : Int) < ((List.length (LA.gjAt x0 k).1 : Nat) : Int))))], [(1, oF s27 (LA.gjAt x0 k).1)]⟩) { ts := [1, 4, 5, 6, 7, 8, 17, 18, 19, 20], os := [1] } h (by kernel_rfl)
   refine at_loop (fun j : Nat => (⟨[(1, aI x1), (4, .p (.c (cN))), (5, aS 1), (6, aI (((LA.gjAt x0 k).2 : Nat) : Int)), (7, aI ((k : Nat) : Int)), (8, aI (((LA.gjAt x0 k).2 + j : Nat) : Int)), (17, aI (((LA.gjAt x0 k).2 : Nat) : Int)), (18, aS 1), (19, aI ((List.length (LA.gjAt x0 k).1 : Nat) : Int)), (20, aB (decide ((((LA.gjAt x0 k).2 : Nat) : Int) < ((List.length (LA.gjAt x0 k).1 : Nat) : Int))))], [(1, oF s27 (LA.gjAt x0 k).1)]⟩ : St)) (fun j => ((LA.gjAt x0 k).2 + j ≤ List.length (LA.gjAt x0 k).1 ∧ ∀ i, (LA.gjAt x0 k).2 ≤ i → i < (LA.gjAt x0 k).2 + j → LA.ent (LA.gjAt x0 k).1 i k = 0)) (fun j => List.length (LA.gjAt x0 k).1 - ((LA.gjAt x0 k).2 + j)) (0) h (st_congr1 (fun (d0 : Int) => (⟨[(1, aI x1), (4, .p (.c (cN))), (5, aS 1), (6, aI (((LA.gjAt x0 k).2 : Nat) : Int)), (7, aI ((k : Nat) : Int)), (8, aI d0), (17, aI (((LA.gjAt x0 k).2 : Nat) : Int)), (18, aS 1), (19, aI ((List.length (LA.gjAt x0 k).1 : Nat) : Int)), (20, aB (decide ((((LA.gjAt x0 k).2 : Nat) : Int) < ((List.length (LA.gjAt x0 k).1 : Nat) : Int))))], [(1, oF s27 (LA.gjAt x0 k).1)]⟩ : St)) (show ((((LA.gjAt x0 k).2 : Nat) : Int) : Int) = (((LA.gjAt x0 k).2 + (0) : Nat) : Int) from by first | with_reducible rfl | (rfl) | rfl)) (by exact ⟨by omega, fun i h1 h2 => absurd h2 (by omega)⟩) ?_
   intro j a w hok1 h
   refine wp_seq (wp_seq ?_)
   by_cases h3 : (((LA.gjAt x0 k).2 + j : Nat) : Int) < ((List.length (LA.gjAt x0 k).1 : Nat) : Int)
   ·have hrp := hgv _ (LA.getD_in (rows := (LA.gjAt x0 k).1) (i := (LA.gjAt x0 k).2 + j) (by omega))
    have hrpl := hrp.1
    have hrpr := hrp.rng k
    refine at_regq [{}, {}, {}, { hint := some (aB true) }] { ts := [1, 4, 5, 6, 7, 8, 17, 18, 19, 20, 30, 31, 32, 33, 34, 35, 36, 37, 38], os := [1] } [(AV.p (.c (.v (.bool (decide ((((LA.gjAt x0 k).2 + j : Nat) : Int) < ((List.length (LA.gjAt x0 k).1 : Nat) : Int)))))) = AV.p (.c (.v (.bool true)))), (0 : Int) ≤ (((LA.gjAt x0 k).2 + j : Nat) : Int) ∧ (((LA.gjAt x0 k).2 + j : Nat) : Int) < ((List.length (LA.gjAt x0 k).1 : Nat) : Int), (LA.gjAt x0 k).2 + j < List.length (LA.gjAt x0 k).1, (0 : Int) ≤ ((k : Nat) : Int) ∧ ((k : Nat) : Int) < ((List.length ((LA.gjAt x0 k).1.getD ((LA.gjAt x0 k).2 + j) []) : Nat) : Int)] gamOK hT h (by kernel_rfl) ⟨hint_bool (decide_eq_true h3), (by refine ⟨?_, ?_⟩ <;> (first | omega | (simp only [lsA]; omega) | (simp <;> omega))), (by first | omega | (simp only [lsA]; omega) | (simp <;> omega)), (by refine ⟨?_, ?_⟩ <;> (first | omega | (simp only [lsA]; omega) | (simp <;> omega))), trivial⟩ fun a w h => then_normal ?_
    refine at_test (decide ((((LA.gjAt x0 k).1.getD ((LA.gjAt x0 k).2 + j) []).getD k 0) = 0)) h (by kernel_rfl) (fun h4 => ?_) (fun h4 => ?_)
    ·replace h4 : (((LA.gjAt x0 k).1.getD ((LA.gjAt x0 k).2 + j) []).getD k 0) = 0 := of_decide_eq_true h4
     refine wp_skip (then_normal (wp_block ?_))
     refine at_regq [{}, { nw := true }] { ts := [1, 4, 5, 6, 7, 8, 17, 18, 19, 20, 30, 31, 32, 33, 34, 35, 36, 37], os := [1] } [I64 ((((LA.gjAt x0 k).2 + j : Nat) : Int) + 1)] gamOK hT h (by kernel_rfl) ⟨⟨by first | omega | (simp only [lsA]; omega) | (simp <;> omega), by first | omega | (simp only [lsA]; omega) | (simp <;> omega)⟩, trivial⟩ fun a w h => in_normal ?_
     replace h := at_out (σ' := ⟨[(1, aI x1), (4, .p (.c (cN))), (5, aS 1), (6, aI (((LA.gjAt x0 k).2 : Nat) : Int)), (7, aI ((k : Nat) : Int)), (8, aI ((((LA.gjAt x0 k).2 + j : Nat) : Int) + 1)), (17, aI (((LA.gjAt x0 k).2 : Nat) : Int)), (18, aS 1), (19, aI ((List.length (LA.gjAt x0 k).1 : Nat) : Int)), (20, aB (decide ((((LA.gjAt x0 k).2 : Nat) : Int) < ((List.length (LA.gjAt x0 k).1 : Nat) : Int))))], [(1, oF s27 (LA.gjAt x0 k).1)]⟩) { ts := [1, 4, 5, 6, 7, 8, 17, 18, 19, 20], os := [1] } h (by kernel_rfl)
     exact ⟨j + 1, at_eq h (st_congr1 (fun (d0 : Int) => (⟨[(1, aI x1), (4, .p (.c (cN))), (5, aS 1), (6, aI (((LA.gjAt x0 k).2 : Nat) : Int)), (7, aI ((k : Nat) : Int)), (8, aI d0), (17, aI (((LA.gjAt x0 k).2 : Nat) : Int)), (18, aS 1), (19, aI ((List.length (LA.gjAt x0 k).1 : Nat) : Int)), (20, aB (decide ((((LA.gjAt x0 k).2 : Nat) : Int) < ((List.length (LA.gjAt x0 k).1 : Nat) : Int))))], [(1, oF s27 (LA.gjAt x0 k).1)]⟩ : St)) (show ((((LA.gjAt x0 k).2 + j : Nat) : Int) + 1 : Int) = (((LA.gjAt x0 k).2 + (j + 1) : Nat) : Int) from by first | with_reducible rfl | (omega) | rfl)), (by exact ⟨by omega, LA.ent_step hok1.2 (by assumption)⟩), (by omega)⟩
    ·replace h4 : ¬ ((((LA.gjAt x0 k).1.getD ((LA.gjAt x0 k).2 + j) []).getD k 0) = 0) := of_decide_eq_false h4
     refine wp_exit (then_exit ?_)
     replace h := at_out (σ' := ⟨[(1, aI x1), (4, .p (.c (cN))), (5, aS 1), (6, aI (((LA.gjAt x0 k).2 : Nat) : Int)), (7, aI ((k : Nat) : Int)), (8, aI (((LA.gjAt x0 k).2 + j : Nat) : Int)), (17, aI (((LA.gjAt x0 k).2 : Nat) : Int)), (18, aS 1), (19, aI ((List.length (LA.gjAt x0 k).1 : Nat) : Int)), (20, aB (decide ((((LA.gjAt x0 k).2 : Nat) : Int) < ((List.length (LA.gjAt x0 k).1 : Nat) : Int)))), (30, aS 1), (31, aI (((LA.gjAt x0 k).2 + j : Nat) : Int)), (32, aE 1 ((LA.gjAt x0 k).2 + j) 0 1), (33, aF (.int 3) ((LA.gjAt x0 k).1.getD ((LA.gjAt x0 k).2 + j) [])), (34, aI ((k : Nat) : Int)), (35, aR (.int 3) (((LA.gjAt x0 k).1.getD ((LA.gjAt x0 k).2 + j) []).getD k 0) 0), (36, aI (((LA.gjAt x0 k).1.getD ((LA.gjAt x0 k).2 + j) []).getD k 0)), (37, aB (decide ((((LA.gjAt x0 k).1.getD ((LA.gjAt x0 k).2 + j) []).getD k 0) = 0)))], [(1, oF s27 (LA.gjAt x0 k).1)]⟩) { ts := [1, 4, 5, 6, 7, 8, 17, 18, 19, 20, 30, 31, 32, 33, 34, 35, 36, 37], os := [1] } h (by kernel_rfl)
     replace h := at_eq (σ' := ⟨[(1, aI x1), (4, .p (.c (cN))), (5, aS 1), (6, aI (((LA.gjAt x0 k).2 : Nat) : Int)), (7, aI ((k : Nat) : Int)), (8, aI ((LA.gp x0 k : Nat) : Int)), (17, aI (((LA.gjAt x0 k).2 : Nat) : Int)), (18, aS 1), (19, aI ((List.length (LA.gjAt x0 k).1 : Nat) : Int)), (20, aB (decide ((((LA.gjAt x0 k).2 : Nat) : Int) < ((List.length (LA.gjAt x0 k).1 : Nat) : Int)))), (30, aS 1), (31, aI (((LA.gjAt x0 k).2 + j : Nat) : Int)), (32, aE 1 ((LA.gjAt x0 k).2 + j) 0 1), (33, aF (.int 3) ((LA.gjAt x0 k).1.getD ((LA.gjAt x0 k).2 + j) [])), (34, aI ((k : Nat) : Int)), (35, aR (.int 3) (((LA.gjAt x0 k).1.getD ((LA.gjAt x0 k).2 + j) []).getD k 0) 0), (36, aI (((LA.gjAt x0 k).1.getD ((LA.gjAt x0 k).2 + j) []).getD k 0)), (37, aB (decide ((((LA.gjAt x0 k).1.getD ((LA.gjAt x0 k).2 + j) []).getD k 0) = 0)))], [(1, oF s27 (LA.gjAt x0 k).1)]⟩) h (st_congr1 (fun (d0 : Int) => (⟨[(1, aI x1), (4, .p (.c (cN))), (5, aS 1), (6, aI (((LA.gjAt x0 k).2 : Nat) : Int)), (7, aI ((k : Nat) : Int)), (8, aI d0), (17, aI (((LA.gjAt x0 k).2 : Nat) : Int)), (18, aS 1), (19, aI ((List.length (LA.gjAt x0 k).1 : Nat) : Int)), (20, aB (decide ((((LA.gjAt x0 k).2 : Nat) : Int) < ((List.length (LA.gjAt x0 k).1 : Nat) : Int)))), (30, aS 1), (31, aI (((LA.gjAt x0 k).2 + j : Nat) : Int)), (32, aE 1 ((LA.gjAt x0 k).2 + j) 0 1), (33, aF (.int 3) ((LA.gjAt x0 k).1.getD ((LA.gjAt x0 k).2 + j) [])), (34, aI ((k : Nat) : Int)), (35, aR (.int 3) (((LA.gjAt x0 k).1.getD ((LA.gjAt x0 k).2 + j) []).getD k 0) 0), (36, aI (((LA.gjAt x0 k).1.getD ((LA.gjAt x0 k).2 + j) []).getD k 0)), (37, aB (decide ((((LA.gjAt x0 k).1.getD ((LA.gjAt x0 k).2 + j) []).getD k 0) = 0)))], [(1, oF s27 (LA.gjAt x0 k).1)]⟩ : St)) (show ((((LA.gjAt x0 k).2 + j : Nat) : Int) : Int) = ((LA.gp x0 k : Nat) : Int) from by first | with_reducible rfl | (rw [LA.gp_eq hok1.1 hok1.2 (fun hh => by first | (exfalso; omega) | assumption)]) | rfl))
     have hgb := LA.gp_bd x0 k
     refine then_exit (in_hit (then_normal (wp_seq (wp_seq ?_))))
     refine at_regq [] { ts := [1, 4, 5, 6, 7, 8, 17, 18, 19, 20, 30, 31, 32, 33, 34, 35, 36, 37, 44], os := [1] } [] gamOK hT h (by kernel_rfl) trivial fun a w h => then_normal ?_
     refine at_test (decide (((LA.gp x0 k : Nat) : Int) = ((List.length (LA.gjAt x0 k).1 : Nat) : Int))) h (by kernel_rfl) (fun h5 => ?_) (fun h5 => ?_)
     ·replace h5 : ((LA.gp x0 k : Nat) : Int) = ((List.length (LA.gjAt x0 k).1 : Nat) : Int) := of_decide_eq_true h5
      refine wp_exit (then_exit (in_hit (then_normal ?_)))
      refine at_regq [{}, { nw := true }] { ts := [1, 4, 5, 6, 7, 17, 18, 19, 20, 30, 31, 32, 33, 34, 35, 36, 37], os := [1] } [I64 (((k : Nat) : Int) + 1)] gamOK hT h (by kernel_rfl) ⟨⟨by first | omega | (simp only [lsA]; omega) | (simp <;> omega), by first | omega | (simp only [lsA]; omega) | (simp <;> omega)⟩, trivial⟩ fun a w h => ?_
      replace h := at_out (σ' := ⟨[(1, aI x1), (4, .p (.c (cN))), (5, aS 1), (6, aI (((LA.gjAt x0 k).2 : Nat) : Int)), (7, aI (((k : Nat) : Int) + 1))], [(1, oF s27 (LA.gjAt x0 k).1)]⟩) { ts := [1, 4, 5, 6, 7], os := [1] } h (by kernel_rfl)
      exact ⟨k + 1, at_eq h (st_congr3 (fun (d0 : List (List Int)) (d1 : Int) (d2 : Int) => (⟨[(1, aI x1), (4, .p (.c (cN))), (5, aS 1), (6, aI d1), (7, aI d2)], [(1, oF s27 d0)]⟩ : St)) (show ((LA.gjAt x0 k).1 : List (List Int)) = (LA.gjAt x0 (k + 1)).1 from by first | with_reducible rfl | (first | (rw [LA.gm_none (by omega) (by omega)]; done) | (rw [LA.gm_done (i := i) hat (by omega) (by omega)]; try first | rfl | (dsimp only; omega))) | rfl) (show ((((LA.gjAt x0 k).2 : Nat) : Int) : Int) = (((LA.gjAt x0 (k + 1)).2 : Nat) : Int) from by first | with_reducible rfl | (first | (rw [LA.gm_none (by omega) (by omega)]; done) | (rw [LA.gm_done (i := i) hat (by omega) (by omega)]; try first | rfl | (dsimp only; omega))) | rfl) (show (((k : Nat) : Int) + 1 : Int) = (((k + 1) : Nat) : Int) from by first | with_reducible rfl | (omega) | rfl)), (by omega), (by omega)⟩
     ·replace h5 : ¬ (((LA.gp x0 k : Nat) : Int) = ((List.length (LA.gjAt x0 k).1 : Nat) : Int)) := of_decide_eq_false h5
      have hgpl : LA.gp x0 k < List.length (LA.gjAt x0 k).1 := by have := LA.gp_bd x0 k; omega
      have hgpz := (LA.gp_bd x0 k).2.2 hgpl
      have hpv := hgv _ (LA.getD_in (rows := (LA.gjAt x0 k).1) hgpl)
      have hpvl := hpv.1
      have hav := hgv _ (LA.getD_in (rows := (LA.gjAt x0 k).1) hat)
      refine wp_skip (then_normal (wp_seq ?_))
      refine at_regq [] { ts := [1, 4, 5, 6, 7, 8, 9, 17, 18, 19, 20, 30, 31, 32, 33, 34, 35, 36, 37], os := [1] } [(0 : Int) ≤ ((LA.gp x0 k : Nat) : Int) ∧ ((LA.gp x0 k : Nat) : Int) < ((List.length (LA.gjAt x0 k).1 : Nat) : Int), LA.gp x0 k < List.length (LA.gjAt x0 k).1] gamOK hT h (by kernel_rfl) ⟨(by refine ⟨?_, ?_⟩ <;> (first | omega | (simp only [lsA]; omega) | (simp <;> omega))), (by first | omega | (simp only [lsA]; omega) | (simp <;> omega)), trivial⟩ fun a w h => then_normal (wp_seq ?_)
      refine at_regq [] { ts := [1, 4, 5, 6, 7, 9, 17, 18, 19, 20, 30, 31, 32, 33, 34, 35, 36, 37], os := [1] } [(0 : Int) ≤ (((LA.gjAt x0 k).2 : Nat) : Int) ∧ (((LA.gjAt x0 k).2 : Nat) : Int) < ((List.length (LA.gjAt x0 k).1 : Nat) : Int), (LA.gjAt x0 k).2 < List.length (LA.gjAt x0 k).1, (0 : Int) ≤ ((LA.gp x0 k : Nat) : Int) ∧ ((LA.gp x0 k : Nat) : Int) < ((List.length (LA.gjAt x0 k).1 : Nat) : Int), LA.gp x0 k < List.length (LA.gjAt x0 k).1] gamOK hT h (by kernel_rfl) ⟨(by refine ⟨?_, ?_⟩ <;> (first | omega | (simp only [lsA]; omega) | (simp <;> omega))), (by first | omega | (simp only [lsA]; omega) | (simp <;> omega)), (by refine ⟨?_, ?_⟩ <;> (first | omega | (simp only [lsA]; omega) | (simp <;> omega))), (by first | omega | (simp only [lsA]; omega) | (simp <;> omega)), trivial⟩ fun a w h => then_normal (wp_seq ?_)
      refine at_regq [{}, {}, {}, {}, {}, {}, {}, {}, { frz := true }] { ts := [1, 4, 5, 6, 7, 17, 18, 19, 20, 30, 31, 32, 33, 34, 35, 36, 37], os := [1] } [(0 : Int) ≤ ((k : Nat) : Int) ∧ ((k : Nat) : Int) < ((List.length ((LA.gjAt x0 k).1.getD (LA.gp x0 k) []) : Nat) : Int), True, Q_spec_ScaleVector ((LA.gjAt x0 k).1.getD (LA.gp x0 k) []) (invF (((LA.gjAt x0 k).1.getD (LA.gp x0 k) []).getD k 0)), (0 : Int) ≤ (((LA.gjAt x0 k).2 : Nat) : Int) ∧ (((LA.gjAt x0 k).2 : Nat) : Int) < ((List.length (List.set (LA.gjAt x0 k).1 (LA.gp x0 k) ((LA.gjAt x0 k).1.getD (LA.gjAt x0 k).2 [])) : Nat) : Int), (LA.gjAt x0 k).2 < List.length (List.set (LA.gjAt x0 k).1 (LA.gp x0 k) ((LA.gjAt x0 k).1.getD (LA.gjAt x0 k).2 []))] gamOK hT h (by kernel_rfl) ⟨(by refine ⟨?_, ?_⟩ <;> (first | omega | (simp only [lsA]; omega) | (simp <;> omega))), trivial, (by exact fitV hpv hw2), (by refine ⟨?_, ?_⟩ <;> (first | omega | (simp only [lsA]; omega) | (simp <;> omega))), (by first | omega | (simp only [lsA]; omega) | (simp <;> omega)), trivial⟩ fun a w h => then_normal (wp_seq (wp_seq ?_))
      refine at_regq [] { ts := [1, 4, 5, 6, 7, 10, 17, 18, 19, 20, 30, 31, 32, 33, 34, 35, 36, 37], os := [1] } [] gamOK hT h (by kernel_rfl) trivial fun a w h => then_normal (wp_block ?_)
      replace h := at_out (σ' := ⟨[(1, aI x1), (4, .p (.c (cN))), (5, aS 1), (6, aI (((LA.gjAt x0 k).2 : Nat) : Int)), (7, aI ((k : Nat) : Int)), (10, aI 0), (17, aI (((LA.gjAt x0 k).2 : Nat) : Int)), (18, aS 1), (19, aI ((List.length (LA.gjAt x0 k).1 : Nat) : Int)), (20, aB (decide ((((LA.gjAt x0 k).2 : Nat) : Int) < ((List.length (LA.gjAt x0 k).1 : Nat) : Int)))), (30, aS 1), (31, aI (((LA.gjAt x0 k).2 + j : Nat) : Int)), (32, aE 1 ((LA.gjAt x0 k).2 + j) 0 1), (33, aF (.int 3) ((LA.gjAt x0 k).1.getD ((LA.gjAt x0 k).2 + j) [])), (34, aI ((k : Nat) : Int)), (35, aR (.int 3) (((LA.gjAt x0 k).1.getD ((LA.gjAt x0 k).2 + j) []).getD k 0) 0), (36, aI (((LA.gjAt x0 k).1.getD ((LA.gjAt x0 k).2 + j) []).getD k 0)), (37, aB (decide ((((LA.gjAt x0 k).1.getD ((LA.gjAt x0 k).2 + j) []).getD k 0) = 0)))], [(1, oF s27 (List.set (List.set (LA.gjAt x0 k).1 (LA.gp x0 k) ((LA.gjAt x0 k).1.getD (LA.gjAt x0 k).2 [])) (LA.gjAt x0 k).2 (scaleV ((LA.gjAt x0 k).1.getD (LA.gp x0 k) []) (invF (((LA.gjAt x0 k).1.getD (LA.gp x0 k) []).getD k 0)))))]⟩) { ts := [1, 4, 5, 6, 7, 10, 17, 18, 19, 20, 30, 31, 32, 33, 34, 35, 36, 37], os := [1] } h (by kernel_rfl)
      refine at_loop (fun i : Nat => (⟨[(1, aI x1), (4, .p (.c (cN))), (5, aS 1), (6, aI (((LA.gjAt x0 k).2 : Nat) : Int)), (7, aI ((k : Nat) : Int)), (10, aI ((i : Nat) : Int)), (17, aI (((LA.gjAt x0 k).2 : Nat) : Int)), (18, aS 1), (19, aI ((List.length (LA.gjAt x0 k).1 : Nat) : Int)), (20, aB (decide ((((LA.gjAt x0 k).2 : Nat) : Int) < ((List.length (LA.gjAt x0 k).1 : Nat) : Int)))), (30, aS 1), (31, aI (((LA.gjAt x0 k).2 + j : Nat) : Int)), (32, aE 1 ((LA.gjAt x0 k).2 + j) 0 1), (33, aF (.int 3) ((LA.gjAt x0 k).1.getD ((LA.gjAt x0 k).2 + j) [])), (34, aI ((k : Nat) : Int)), (35, aR (.int 3) (((LA.gjAt x0 k).1.getD ((LA.gjAt x0 k).2 + j) []).getD k 0) 0), (36, aI (((LA.gjAt x0 k).1.getD ((LA.gjAt x0 k).2 + j) []).getD k 0)), (37, aB (decide ((((LA.gjAt x0 k).1.getD ((LA.gjAt x0 k).2 + j) []).getD k 0) = 0)))], [(1, oF s27 (LA.gm x0 k i))]⟩ : St)) (fun i => i ≤ List.length (LA.gjAt x0 k).1) (fun i => List.length (LA.gjAt x0 k).1 - i) (0) h (st_congr2 (fun (d0 : List (List Int)) (d1 : Int) => (⟨[(1, aI x1), (4, .p (.c (cN))), (5, aS 1), (6, aI (((LA.gjAt x0 k).2 : Nat) : Int)), (7, aI ((k : Nat) : Int)), (10, aI d1), (17, aI (((LA.gjAt x0 k).2 : Nat) : Int)), (18, aS 1), (19, aI ((List.length (LA.gjAt x0 k).1 : Nat) : Int)), (20, aB (decide ((((LA.gjAt x0 k).2 : Nat) : Int) < ((List.length (LA.gjAt x0 k).1 : Nat) : Int)))), (30, aS 1), (31, aI (((LA.gjAt x0 k).2 + j : Nat) : Int)), (32, aE 1 ((LA.gjAt x0 k).2 + j) 0 1), (33, aF (.int 3) ((LA.gjAt x0 k).1.getD ((LA.gjAt x0 k).2 + j) [])), (34, aI ((k : Nat) : Int)), (35, aR (.int 3) (((LA.gjAt x0 k).1.getD ((LA.gjAt x0 k).2 + j) []).getD k 0) 0), (36, aI (((LA.gjAt x0 k).1.getD ((LA.gjAt x0 k).2 + j) []).getD k 0)), (37, aB (decide ((((LA.gjAt x0 k).1.getD ((LA.gjAt x0 k).2 + j) []).getD k 0) = 0)))], [(1, oF s27 d0)]⟩ : St)) (show ((List.set (List.set (LA.gjAt x0 k).1 (LA.gp x0 k) ((LA.gjAt x0 k).1.getD (LA.gjAt x0 k).2 [])) (LA.gjAt x0 k).2 (scaleV ((LA.gjAt x0 k).1.getD (LA.gp x0 k) []) (invF (((LA.gjAt x0 k).1.getD (LA.gp x0 k) []).getD k 0)))) : List (List Int)) = (LA.gm x0 k (0)) from by first | with_reducible rfl | (exact LA.gm_zero (l7_lead hgv hw2 hgpl hgpz)) | rfl) (show (0 : Int) = (((0) : Nat) : Int) from by first | with_reducible rfl | (exact LA.gm_zero (l7_lead hgv hw2 hgpl hgpz)) | rfl)) (by omega) ?_
      intro i a w hok2 h
      have hml := LA.gm_len x0 k i
      refine wp_seq (wp_seq ?_)
      refine at_regq [] { ts := [1, 4, 5, 6, 7, 10, 17, 18, 19, 20, 30, 31, 32, 33, 34, 35, 36, 37, 69], os := [1] } [] gamOK hT h (by kernel_rfl) trivial fun a w h => then_normal ?_
      refine at_test (decide (((i : Nat) : Int) < ((List.length (LA.gm x0 k i) : Nat) : Int))) h (by kernel_rfl) (fun h6 => ?_) (fun h6 => ?_)
      ·replace h6 : ((i : Nat) : Int) < ((List.length (LA.gm x0 k i) : Nat) : Int) := of_decide_eq_true h6
       have hmi := LA.gm_ok (i := i) hw1 hat hgpl (show i < List.length (LA.gjAt x0 k).1 by omega)
       have hmil := hmi.1
       have hmir := hmi.rng k
       have hma := LA.gm_piv (i := i) hw1 hat hgpl
       have hmal := hma.1
       refine wp_skip (then_normal (wp_seq (wp_block (wp_seq ?_))))
       by_cases h7 : ((i : Nat) : Int) = (((LA.gjAt x0 k).2 : Nat) : Int)
       ·refine at_regq [{}, {}, { hint := some (aB false) }] { ts := [1, 4, 5, 6, 7, 10, 17, 18, 19, 20, 30, 31, 32, 33, 34, 35, 36, 37, 76, 77, 78, 79, 80, 81, 82, 83, 84], os := [1] } [(AV.p (.c (.v (.bool (!decide (((i : Nat) : Int) = (((LA.gjAt x0 k).2 : Nat) : Int)))))) = AV.p (.c (.v (.bool false))))] gamOK hT h (by kernel_rfl) ⟨hint_bool (ndT h7), trivial⟩ fun a w h => then_normal ?_
        refine at_test false h (by kernel_rfl) (fun hh => nomatch hh) (fun hh => ?_)
        refine wp_skip (in_normal (then_normal ?_))
        refine at_regq [{}, { nw := true }] { ts := [1, 4, 5, 6, 7, 10, 17, 18, 19, 20, 30, 31, 32, 33, 34, 35, 36, 37, 76, 77, 78, 79, 80, 81, 82, 83], os := [1] } [I64 (((i : Nat) : Int) + 1)] gamOK hT h (by kernel_rfl) ⟨⟨by first | omega | (simp only [lsA]; omega) | (simp <;> omega), by first | omega | (simp only [lsA]; omega) | (simp <;> omega)⟩, trivial⟩ fun a w h => ?_
        replace h := at_out (σ' := ⟨[(1, aI x1), (4, .p (.c (cN))), (5, aS 1), (6, aI (((LA.gjAt x0 k).2 : Nat) : Int)), (7, aI ((k : Nat) : Int)), (10, aI (((i : Nat) : Int) + 1)), (17, aI (((LA.gjAt x0 k).2 : Nat) : Int)), (18, aS 1), (19, aI ((List.length (LA.gjAt x0 k).1 : Nat) : Int)), (20, aB (decide ((((LA.gjAt x0 k).2 : Nat) : Int) < ((List.length (LA.gjAt x0 k).1 : Nat) : Int)))), (30, aS 1), (31, aI (((LA.gjAt x0 k).2 + j : Nat) : Int)), (32, aE 1 ((LA.gjAt x0 k).2 + j) 0 1), (33, aF (.int 3) ((LA.gjAt x0 k).1.getD ((LA.gjAt x0 k).2 + j) [])), (34, aI ((k : Nat) : Int)), (35, aR (.int 3) (((LA.gjAt x0 k).1.getD ((LA.gjAt x0 k).2 + j) []).getD k 0) 0), (36, aI (((LA.gjAt x0 k).1.getD ((LA.gjAt x0 k).2 + j) []).getD k 0)), (37, aB (decide ((((LA.gjAt x0 k).1.getD ((LA.gjAt x0 k).2 + j) []).getD k 0) = 0)))], [(1, oF s27 (LA.gm x0 k i))]⟩) { ts := [1, 4, 5, 6, 7, 10, 17, 18, 19, 20, 30, 31, 32, 33, 34, 35, 36, 37], os := [1] } h (by kernel_rfl)
        exact ⟨i + 1, at_eq h (st_congr2 (fun (d0 : List (List Int)) (d1 : Int) => (⟨[(1, aI x1), (4, .p (.c (cN))), (5, aS 1), (6, aI (((LA.gjAt x0 k).2 : Nat) : Int)), (7, aI ((k : Nat) : Int)), (10, aI d1), (17, aI (((LA.gjAt x0 k).2 : Nat) : Int)), (18, aS 1), (19, aI ((List.length (LA.gjAt x0 k).1 : Nat) : Int)), (20, aB (decide ((((LA.gjAt x0 k).2 : Nat) : Int) < ((List.length (LA.gjAt x0 k).1 : Nat) : Int)))), (30, aS 1), (31, aI (((LA.gjAt x0 k).2 + j : Nat) : Int)), (32, aE 1 ((LA.gjAt x0 k).2 + j) 0 1), (33, aF (.int 3) ((LA.gjAt x0 k).1.getD ((LA.gjAt x0 k).2 + j) [])), (34, aI ((k : Nat) : Int)), (35, aR (.int 3) (((LA.gjAt x0 k).1.getD ((LA.gjAt x0 k).2 + j) []).getD k 0) 0), (36, aI (((LA.gjAt x0 k).1.getD ((LA.gjAt x0 k).2 + j) []).getD k 0)), (37, aB (decide ((((LA.gjAt x0 k).1.getD ((LA.gjAt x0 k).2 + j) []).getD k 0) = 0)))], [(1, oF s27 d0)]⟩ : St)) (show ((LA.gm x0 k i) : List (List Int)) = (LA.gm x0 k (i + 1)) from by first | with_reducible rfl | (first | exact (LA.gm_same (by omega) (Or.inl (by omega))).symm | exact (LA.gm_same (by omega) (Or.inr (by assumption))).symm | (rw [addV_L hmi hma hw2 (by omega)]; exact (LA.gm_add (by omega) hat (by omega) (by assumption)).symm)) | rfl) (show (((i : Nat) : Int) + 1 : Int) = (((i + 1) : Nat) : Int) from by first | with_reducible rfl | (omega) | rfl)), (by omega), (by omega)⟩
       ·refine at_regq [{}, {}, { hint := some (aB true) }] { ts := [1, 4, 5, 6, 7, 10, 17, 18, 19, 20, 30, 31, 32, 33, 34, 35, 36, 37, 76, 77, 78, 79, 80, 81, 82, 83, 84], os := [1] } [(AV.p (.c (.v (.bool (!decide (((i : Nat) : Int) = (((LA.gjAt x0 k).2 : Nat) : Int)))))) = AV.p (.c (.v (.bool true)))), (0 : Int) ≤ ((i : Nat) : Int) ∧ ((i : Nat) : Int) < ((List.length (LA.gm x0 k i) : Nat) : Int), i < List.length (LA.gm x0 k i), (0 : Int) ≤ ((k : Nat) : Int) ∧ ((k : Nat) : Int) < ((List.length ((LA.gm x0 k i).getD i []) : Nat) : Int)] gamOK hT h (by kernel_rfl) ⟨hint_bool (ndF h7), (by refine ⟨?_, ?_⟩ <;> (first | omega | (simp only [lsA]; omega) | (simp <;> omega))), (by first | omega | (simp only [lsA]; omega) | (simp <;> omega)), (by refine ⟨?_, ?_⟩ <;> (first | omega | (simp only [lsA]; omega) | (simp <;> omega))), trivial⟩ fun a w h => then_normal ?_
        refine at_test (!decide ((((LA.gm x0 k i).getD i []).getD k 0) = 0)) h (by kernel_rfl) (fun h8 => ?_) (fun h8 => ?_)
        ·replace h8 : ¬ ((((LA.gm x0 k i).getD i []).getD k 0) = 0) := of_decide_eq_false (notT h8)
         refine at_anyq [{}, {}, {}, {}, {}, {}, {}, {}, {}, {}, {}, {}, {}, {}, {}, {}, {}, { nw := true }, { frz := true }, {}, {}] { ts := [1, 4, 5, 6, 7, 10, 17, 18, 19, 20, 30, 31, 32, 33, 34, 35, 36, 37, 76, 77, 78, 79, 80, 81, 82, 83], os := [1] } [(0 : Int) ≤ ((i : Nat) : Int) ∧ ((i : Nat) : Int) < ((List.length (LA.gm x0 k i) : Nat) : Int), i < List.length (LA.gm x0 k i), (0 : Int) ≤ (((LA.gjAt x0 k).2 : Nat) : Int) ∧ (((LA.gjAt x0 k).2 : Nat) : Int) < ((List.length (LA.gm x0 k i) : Nat) : Int), (LA.gjAt x0 k).2 < List.length (LA.gm x0 k i), (0 : Int) ≤ ((i : Nat) : Int) ∧ ((i : Nat) : Int) < ((List.length (LA.gm x0 k i) : Nat) : Int), i < List.length (LA.gm x0 k i), (0 : Int) ≤ ((k : Nat) : Int) ∧ ((k : Nat) : Int) < ((List.length ((LA.gm x0 k i).getD i []) : Nat) : Int), I64 (1019 - (((LA.gm x0 k i).getD i []).getD k 0)), Q_spec_AddScaled ((LA.gm x0 k i).getD i []) ((LA.gm x0 k i).getD (LA.gjAt x0 k).2 []) (1019 - (((LA.gm x0 k i).getD i []).getD k 0)), (0 : Int) ≤ ((i : Nat) : Int) ∧ ((i : Nat) : Int) < ((List.length (LA.gm x0 k i) : Nat) : Int), i < List.length (LA.gm x0 k i)] gamOK hT mixed h (by kernel_rfl) ⟨(by refine ⟨?_, ?_⟩ <;> (first | omega | (simp only [lsA]; omega) | (simp <;> omega))), (by first | omega | (simp only [lsA]; omega) | (simp <;> omega)), (by refine ⟨?_, ?_⟩ <;> (first | omega | (simp only [lsA]; omega) | (simp <;> omega))), (by first | omega | (simp only [lsA]; omega) | (simp <;> omega)), (by refine ⟨?_, ?_⟩ <;> (first | omega | (simp only [lsA]; omega) | (simp <;> omega))), (by first | omega | (simp only [lsA]; omega) | (simp <;> omega)), (by refine ⟨?_, ?_⟩ <;> (first | omega | (simp only [lsA]; omega) | (simp <;> omega))), ⟨by first | omega | (simp only [lsA]; omega) | (simp <;> omega), by first | omega | (simp only [lsA]; omega) | (simp <;> omega)⟩, (by exact ⟨fitV hmi hw2, fitV hma hw2⟩), (by refine ⟨?_, ?_⟩ <;> (first | omega | (simp only [lsA]; omega) | (simp <;> omega))), (by first | omega | (simp only [lsA]; omega) | (simp <;> omega)), trivial⟩ fun a w h => in_normal (then_normal ?_)
         refine at_regq [{}, { nw := true }] { ts := [1, 4, 5, 6, 7, 10, 17, 18, 19, 20, 30, 31, 32, 33, 34, 35, 36, 37, 76, 77, 78, 79, 80, 81, 82, 83], os := [1] } [I64 (((i : Nat) : Int) + 1)] gamOK hT h (by kernel_rfl) ⟨⟨by first | omega | (simp only [lsA]; omega) | (simp <;> omega), by first | omega | (simp only [lsA]; omega) | (simp <;> omega)⟩, trivial⟩ fun a w h => ?_
         replace h := at_out (σ' := ⟨[(1, aI x1), (4, .p (.c (cN))), (5, aS 1), (6, aI (((LA.gjAt x0 k).2 : Nat) : Int)), (7, aI ((k : Nat) : Int)), (10, aI (((i : Nat) : Int) + 1)), (17, aI (((LA.gjAt x0 k).2 : Nat) : Int)), (18, aS 1), (19, aI ((List.length (LA.gjAt x0 k).1 : Nat) : Int)), (20, aB (decide ((((LA.gjAt x0 k).2 : Nat) : Int) < ((List.length (LA.gjAt x0 k).1 : Nat) : Int)))), (30, aS 1), (31, aI (((LA.gjAt x0 k).2 + j : Nat) : Int)), (32, aE 1 ((LA.gjAt x0 k).2 + j) 0 1), (33, aF (.int 3) ((LA.gjAt x0 k).1.getD ((LA.gjAt x0 k).2 + j) [])), (34, aI ((k : Nat) : Int)), (35, aR (.int 3) (((LA.gjAt x0 k).1.getD ((LA.gjAt x0 k).2 + j) []).getD k 0) 0), (36, aI (((LA.gjAt x0 k).1.getD ((LA.gjAt x0 k).2 + j) []).getD k 0)), (37, aB (decide ((((LA.gjAt x0 k).1.getD ((LA.gjAt x0 k).2 + j) []).getD k 0) = 0)))], [(1, oF s27 (List.set (LA.gm x0 k i) i (addV ((LA.gm x0 k i).getD i []) ((LA.gm x0 k i).getD (LA.gjAt x0 k).2 []) (1019 - (((LA.gm x0 k i).getD i []).getD k 0)))))]⟩) { ts := [1, 4, 5, 6, 7, 10, 17, 18, 19, 20, 30, 31, 32, 33, 34, 35, 36, 37], os := [1] } h (by kernel_rfl)
         exact ⟨i + 1, at_eq h (st_congr2 (fun (d0 : List (List Int)) (d1 : Int) => (⟨[(1, aI x1), (4, .p (.c (cN))), (5, aS 1), (6, aI (((LA.gjAt x0 k).2 : Nat) : Int)), (7, aI ((k : Nat) : Int)), (10, aI d1), (17, aI (((LA.gjAt x0 k).2 : Nat) : Int)), (18, aS 1), (19, aI ((List.length (LA.gjAt x0 k).1 : Nat) : Int)), (20, aB (decide ((((LA.gjAt x0 k).2 : Nat) : Int) < ((List.length (LA.gjAt x0 k).1 : Nat) : Int)))), (30, aS 1), (31, aI (((LA.gjAt x0 k).2 + j : Nat) : Int)), (32, aE 1 ((LA.gjAt x0 k).2 + j) 0 1), (33, aF (.int 3) ((LA.gjAt x0 k).1.getD ((LA.gjAt x0 k).2 + j) [])), (34, aI ((k : Nat) : Int)), (35, aR (.int 3) (((LA.gjAt x0 k).1.getD ((LA.gjAt x0 k).2 + j) []).getD k 0) 0), (36, aI (((LA.gjAt x0 k).1.getD ((LA.gjAt x0 k).2 + j) []).getD k 0)), (37, aB (decide ((((LA.gjAt x0 k).1.getD ((LA.gjAt x0 k).2 + j) []).getD k 0) = 0)))], [(1, oF s27 d0)]⟩ : St)) (show ((List.set (LA.gm x0 k i) i (addV ((LA.gm x0 k i).getD i []) ((LA.gm x0 k i).getD (LA.gjAt x0 k).2 []) (1019 - (((LA.gm x0 k i).getD i []).getD k 0)))) : List (List Int)) = (LA.gm x0 k (i + 1)) from by first | with_reducible rfl | (first | exact (LA.gm_same (by omega) (Or.inl (by omega))).symm | exact (LA.gm_same (by omega) (Or.inr (by assumption))).symm | (rw [addV_L hmi hma hw2 (by omega)]; exact (LA.gm_add (by omega) hat (by omega) (by assumption)).symm)) | rfl) (show (((i : Nat) : Int) + 1 : Int) = (((i + 1) : Nat) : Int) from by first | with_reducible rfl | (omega) | rfl)), (by omega), (by omega)⟩
        ·replace h8 : (((LA.gm x0 k i).getD i []).getD k 0) = 0 := of_decide_eq_true (notF h8)
         refine wp_skip (in_normal (then_normal ?_))
         refine at_regq [{}, { nw := true }] { ts := [1, 4, 5, 6, 7, 10, 17, 18, 19, 20, 30, 31, 32, 33, 34, 35, 36, 37, 76, 77, 78, 79, 80, 81, 82, 83], os := [1] } [I64 (((i : Nat) : Int) + 1)] gamOK hT h (by kernel_rfl) ⟨⟨by first | omega | (simp only [lsA]; omega) | (simp <;> omega), by first | omega | (simp only [lsA]; omega) | (simp <;> omega)⟩, trivial⟩ fun a w h => ?_
         replace h := at_out (σ' := ⟨[(1, aI x1), (4, .p (.c (cN))), (5, aS 1), (6, aI (((LA.gjAt x0 k).2 : Nat) : Int)), (7, aI ((k : Nat) : Int)), (10, aI (((i : Nat) : Int) + 1)), (17, aI (((LA.gjAt x0 k).2 : Nat) : Int)), (18, aS 1), (19, aI ((List.length (LA.gjAt x0 k).1 : Nat) : Int)), (20, aB (decide ((((LA.gjAt x0 k).2 : Nat) : Int) < ((List.length (LA.gjAt x0 k).1 : Nat) : Int)))), (30, aS 1), (31, aI (((LA.gjAt x0 k).2 + j : Nat) : Int)), (32, aE 1 ((LA.gjAt x0 k).2 + j) 0 1), (33, aF (.int 3) ((LA.gjAt x0 k).1.getD ((LA.gjAt x0 k).2 + j) [])), (34, aI ((k : Nat) : Int)), (35, aR (.int 3) (((LA.gjAt x0 k).1.getD ((LA.gjAt x0 k).2 + j) []).getD k 0) 0), (36, aI (((LA.gjAt x0 k).1.getD ((LA.gjAt x0 k).2 + j) []).getD k 0)), (37, aB (decide ((((LA.gjAt x0 k).1.getD ((LA.gjAt x0 k).2 + j) []).getD k 0) = 0)))], [(1, oF s27 (LA.gm x0 k i))]⟩) { ts := [1, 4, 5, 6, 7, 10, 17, 18, 19, 20, 30, 31, 32, 33, 34, 35, 36, 37], os := [1] } h (by kernel_rfl)
         exact ⟨i + 1, at_eq h (st_congr2 (fun (d0 : List (List Int)) (d1 : Int) => (⟨[(1, aI x1), (4, .p (.c (cN))), (5, aS 1), (6, aI (((LA.gjAt x0 k).2 : Nat) : Int)), (7, aI ((k : Nat) : Int)), (10, aI d1), (17, aI (((LA.gjAt x0 k).2 : Nat) : Int)), (18, aS 1), (19, aI ((List.length (LA.gjAt x0 k).1 : Nat) : Int)), (20, aB (decide ((((LA.gjAt x0 k).2 : Nat) : Int) < ((List.length (LA.gjAt x0 k).1 : Nat) : Int)))), (30, aS 1), (31, aI (((LA.gjAt x0 k).2 + j : Nat) : Int)), (32, aE 1 ((LA.gjAt x0 k).2 + j) 0 1), (33, aF (.int 3) ((LA.gjAt x0 k).1.getD ((LA.gjAt x0 k).2 + j) [])), (34, aI ((k : Nat) : Int)), (35, aR (.int 3) (((LA.gjAt x0 k).1.getD ((LA.gjAt x0 k).2 + j) []).getD k 0) 0), (36, aI (((LA.gjAt x0 k).1.getD ((LA.gjAt x0 k).2 + j) []).getD k 0)), (37, aB (decide ((((LA.gjAt x0 k).1.getD ((LA.gjAt x0 k).2 + j) []).getD k 0) = 0)))], [(1, oF s27 d0)]⟩ : St)) (show ((LA.gm x0 k i) : List (List Int)) = (LA.gm x0 k (i + 1)) from by first | with_reducible rfl | (first | exact (LA.gm_same (by omega) (Or.inl (by omega))).symm | exact (LA.gm_same (by omega) (Or.inr (by assumption))).symm | (rw [addV_L hmi hma hw2 (by omega)]; exact (LA.gm_add (by omega) hat (by omega) (by assumption)).symm)) | rfl) (show (((i : Nat) : Int) + 1 : Int) = (((i + 1) : Nat) : Int) from by first | with_reducible rfl | (omega) | rfl)), (by omega), (by omega)⟩
      ·replace h6 : ¬ (((i : Nat) : Int) < ((List.length (LA.gm x0 k i) : Nat) : Int)) := of_decide_eq_false h6
       refine wp_exit (then_exit (then_exit (in_hit (then_normal ?_))))
       refine at_regq [{}, { nw := true }] { ts := [1, 4, 5, 6, 7, 17, 18, 19, 20, 30, 31, 32, 33, 34, 35, 36, 37], os := [1] } [I64 ((((LA.gjAt x0 k).2 : Nat) : Int) + 1)] gamOK hT h (by kernel_rfl) ⟨⟨by first | omega | (simp only [lsA]; omega) | (simp <;> omega), by first | omega | (simp only [lsA]; omega) | (simp <;> omega)⟩, trivial⟩ fun a w h => in_normal (then_normal ?_)
       refine at_regq [{}, { nw := true }] { ts := [1, 4, 5, 6, 7, 17, 18, 19, 20, 30, 31, 32, 33, 34, 35, 36, 37], os := [1] } [I64 (((k : Nat) : Int) + 1)] gamOK hT h (by kernel_rfl) ⟨⟨by first | omega | (simp only [lsA]; omega) | (simp <;> omega), by first | omega | (simp only [lsA]; omega) | (simp <;> omega)⟩, trivial⟩ fun a w h => ?_
       replace h := at_out (σ' := ⟨[(1, aI x1), (4, .p (.c (cN))), (5, aS 1), (6, aI ((((LA.gjAt x0 k).2 : Nat) : Int) + 1)), (7, aI (((k : Nat) : Int) + 1))], [(1, oF s27 (LA.gm x0 k i))]⟩) { ts := [1, 4, 5, 6, 7], os := [1] } h (by kernel_rfl)
       exact ⟨k + 1, at_eq h (st_congr3 (fun (d0 : List (List Int)) (d1 : Int) (d2 : Int) => (⟨[(1, aI x1), (4, .p (.c (cN))), (5, aS 1), (6, aI d1), (7, aI d2)], [(1, oF s27 d0)]⟩ : St)) (show ((LA.gm x0 k i) : List (List Int)) = (LA.gjAt x0 (k + 1)).1 from by first | with_reducible rfl | (first | (rw [LA.gm_none (by omega) (by omega)]; done) | (rw [LA.gm_done (i := i) hat (by omega) (by omega)]; try first | rfl | (dsimp only; omega))) | rfl) (show ((((LA.gjAt x0 k).2 : Nat) : Int) + 1 : Int) = (((LA.gjAt x0 (k + 1)).2 : Nat) : Int) from by first | with_reducible rfl | (first | (rw [LA.gm_none (by omega) (by omega)]; done) | (rw [LA.gm_done (i := i) hat (by omega) (by omega)]; try first | rfl | (dsimp only; omega))) | rfl) (show (((k : Nat) : Int) + 1 : Int) = (((k + 1) : Nat) : Int) from by first | with_reducible rfl | (omega) | rfl)), (by omega), (by omega)⟩
   ·refine at_regq [{}, {}, {}, { hint := some (aB false) }] { ts := [1, 4, 5, 6, 7, 8, 17, 18, 19, 20, 30, 31, 32, 33, 34, 35, 36, 37, 38], os := [1] } [(AV.p (.c (.v (.bool (decide ((((LA.gjAt x0 k).2 + j : Nat) : Int) < ((List.length (LA.gjAt x0 k).1 : Nat) : Int)))))) = AV.p (.c (.v (.bool false))))] gamOK hT h (by kernel_rfl) ⟨hint_bool (decide_eq_false h3), trivial⟩ fun a w h => then_normal ?_
    refine at_test false h (by kernel_rfl) (fun hh => nomatch hh) (fun hh => ?_)
    refine wp_exit (then_exit ?_)
    replace h := at_out (σ' := ⟨[(1, aI x1), (4, .p (.c (cN))), (5, aS 1), (6, aI (((LA.gjAt x0 k).2 : Nat) : Int)), (7, aI ((k : Nat) : Int)), (8, aI (((LA.gjAt x0 k).2 + j : Nat) : Int)), (17, aI (((LA.gjAt x0 k).2 : Nat) : Int)), (18, aS 1), (19, aI ((List.length (LA.gjAt x0 k).1 : Nat) : Int)), (20, aB (decide ((((LA.gjAt x0 k).2 : Nat) : Int) < ((List.length (LA.gjAt x0 k).1 : Nat) : Int)))), (30, .p (.c (.v undef))), (31, .p (.c (.v undef))), (32, .p (.c (.v undef))), (33, .p (.c (.v undef))), (34, .p (.c (.v undef))), (35, .p (.c (.v undef))), (36, .p (.c (.v undef))), (37, .p (.c (.v undef)))], [(1, oF s27 (LA.gjAt x0 k).1)]⟩) { ts := [1, 4, 5, 6, 7, 8, 17, 18, 19, 20, 30, 31, 32, 33, 34, 35, 36, 37], os := [1] } h (by kernel_rfl)
    replace h := at_eq (σ' := ⟨[(1, aI x1), (4, .p (.c (cN))), (5, aS 1), (6, aI (((LA.gjAt x0 k).2 : Nat) : Int)), (7, aI ((k : Nat) : Int)), (8, aI ((LA.gp x0 k : Nat) : Int)), (17, aI (((LA.gjAt x0 k).2 : Nat) : Int)), (18, aS 1), (19, aI ((List.length (LA.gjAt x0 k).1 : Nat) : Int)), (20, aB (decide ((((LA.gjAt x0 k).2 : Nat) : Int) < ((List.length (LA.gjAt x0 k).1 : Nat) : Int)))), (30, .p (.c (.v undef))), (31, .p (.c (.v undef))), (32, .p (.c (.v undef))), (33, .p (.c (.v undef))), (34, .p (.c (.v undef))), (35, .p (.c (.v undef))), (36, .p (.c (.v undef))), (37, .p (.c (.v undef)))], [(1, oF s27 (LA.gjAt x0 k).1)]⟩) h (st_congr1 (fun (d0 : Int) => (⟨[(1, aI x1), (4, .p (.c (cN))), (5, aS 1), (6, aI (((LA.gjAt x0 k).2 : Nat) : Int)), (7, aI ((k : Nat) : Int)), (8, aI d0), (17, aI (((LA.gjAt x0 k).2 : Nat) : Int)), (18, aS 1), (19, aI ((List.length (LA.gjAt x0 k).1 : Nat) : Int)), (20, aB (decide ((((LA.gjAt x0 k).2 : Nat) : Int) < ((List.length (LA.gjAt x0 k).1 : Nat) : Int)))), (30, .p (.c (.v undef))), (31, .p (.c (.v undef))), (32, .p (.c (.v undef))), (33, .p (.c (.v undef))), (34, .p (.c (.v undef))), (35, .p (.c (.v undef))), (36, .p (.c (.v undef))), (37, .p (.c (.v undef)))], [(1, oF s27 (LA.gjAt x0 k).1)]⟩ : St)) (show ((((LA.gjAt x0 k).2 + j : Nat) : Int) : Int) = ((LA.gp x0 k : Nat) : Int) from by first | with_reducible rfl | (rw [LA.gp_eq hok1.1 hok1.2 (fun hh => by first | (exfalso; omega) | assumption)]) | rfl))
    have hgb := LA.gp_bd x0 k
    refine then_exit (in_hit (then_normal (wp_seq (wp_seq ?_))))
    refine at_regq [] { ts := [1, 4, 5, 6, 7, 8, 17, 18, 19, 20, 30, 31, 32, 33, 34, 35, 36, 37, 44], os := [1] } [] gamOK hT h (by kernel_rfl) trivial fun a w h => then_normal ?_
    refine at_test (decide (((LA.gp x0 k : Nat) : Int) = ((List.length (LA.gjAt x0 k).1 : Nat) : Int))) h (by kernel_rfl) (fun h9 => ?_) (fun h9 => ?_)
    ·replace h9 : ((LA.gp x0 k : Nat) : Int) = ((List.length (LA.gjAt x0 k).1 : Nat) : Int) := of_decide_eq_true h9
     refine wp_exit (then_exit (in_hit (then_normal ?_)))
     refine at_regq [{}, { nw := true }] { ts := [1, 4, 5, 6, 7, 17, 18, 19, 20, 30, 31, 32, 33, 34, 35, 36, 37], os := [1] } [I64 (((k : Nat) : Int) + 1)] gamOK hT h (by kernel_rfl) ⟨⟨by first | omega | (simp only [lsA]; omega) | (simp <;> omega), by first | omega | (simp only [lsA]; omega) | (simp <;> omega)⟩, trivial⟩ fun a w h => ?_
     replace h := at_out (σ' := ⟨[(1, aI x1), (4, .p (.c (cN))), (5, aS 1), (6, aI (((LA.gjAt x0 k).2 : Nat) : Int)), (7, aI (((k : Nat) : Int) + 1))], [(1, oF s27 (LA.gjAt x0 k).1)]⟩) { ts := [1, 4, 5, 6, 7], os := [1] } h (by kernel_rfl)
     exact ⟨k + 1, at_eq h (st_congr3 (fun (d0 : List (List Int)) (d1 : Int) (d2 : Int) => (⟨[(1, aI x1), (4, .p (.c (cN))), (5, aS 1), (6, aI d1), (7, aI d2)], [(1, oF s27 d0)]⟩ : St)) (show ((LA.gjAt x0 k).1 : List (List Int)) = (LA.gjAt x0 (k + 1)).1 from by first | with_reducible rfl | (first | (rw [LA.gm_none (by omega) (by omega)]; done) | (rw [LA.gm_done (i := i) hat (by omega) (by omega)]; try first | rfl | (dsimp only; omega))) | rfl) (show ((((LA.gjAt x0 k).2 : Nat) : Int) : Int) = (((LA.gjAt x0 (k + 1)).2 : Nat) : Int) from by first | with_reducible rfl | (first | (rw [LA.gm_none (by omega) (by omega)]; done) | (rw [LA.gm_done (i := i) hat (by omega) (by omega)]; try first | rfl | (dsimp only; omega))) | rfl) (show (((k : Nat) : Int) + 1 : Int) = (((k + 1) : Nat) : Int) from by first | with_reducible rfl | (omega) | rfl)), (by omega), (by omega)⟩
    ·replace h9 : ¬ (((LA.gp x0 k : Nat) : Int) = ((List.length (LA.gjAt x0 k).1 : Nat) : Int)) := of_decide_eq_false h9
     have hgpl : LA.gp x0 k < List.length (LA.gjAt x0 k).1 := by have := LA.gp_bd x0 k; omega
     have hgpz := (LA.gp_bd x0 k).2.2 hgpl
     have hpv := hgv _ (LA.getD_in (rows := (LA.gjAt x0 k).1) hgpl)
     have hpvl := hpv.1
     have hav := hgv _ (LA.getD_in (rows := (LA.gjAt x0 k).1) hat)
     refine wp_skip (then_normal (wp_seq ?_))
     refine at_regq [] { ts := [1, 4, 5, 6, 7, 8, 9, 17, 18, 19, 20, 30, 31, 32, 33, 34, 35, 36, 37], os := [1] } [(0 : Int) ≤ ((LA.gp x0 k : Nat) : Int) ∧ ((LA.gp x0 k : Nat) : Int) < ((List.length (LA.gjAt x0 k).1 : Nat) : Int), LA.gp x0 k < List.length (LA.gjAt x0 k).1] gamOK hT h (by kernel_rfl) ⟨(by refine ⟨?_, ?_⟩ <;> (first | omega | (simp only [lsA]; omega) | (simp <;> omega))), (by first | omega | (simp only [lsA]; omega) | (simp <;> omega)), trivial⟩ fun a w h => then_normal (wp_seq ?_)
     refine at_regq [] { ts := [1, 4, 5, 6, 7, 9, 17, 18, 19, 20, 30, 31, 32, 33, 34, 35, 36, 37], os := [1] } [(0 : Int) ≤ (((LA.gjAt x0 k).2 : Nat) : Int) ∧ (((LA.gjAt x0 k).2 : Nat) : Int) < ((List.length (LA.gjAt x0 k).1 : Nat) : Int), (LA.gjAt x0 k).2 < List.length (LA.gjAt x0 k).1, (0 : Int) ≤ ((LA.gp x0 k : Nat) : Int) ∧ ((LA.gp x0 k : Nat) : Int) < ((List.length (LA.gjAt x0 k).1 : Nat) : Int), LA.gp x0 k < List.length (LA.gjAt x0 k).1] gamOK hT h (by kernel_rfl) ⟨(by refine ⟨?_, ?_⟩ <;> (first | omega | (simp only [lsA]; omega) | (simp <;> omega))), (by first | omega | (simp only [lsA]; omega) | (simp <;> omega)), (by refine ⟨?_, ?_⟩ <;> (first | omega | (simp only [lsA]; omega) | (simp <;> omega))), (by first | omega | (simp only [lsA]; omega) | (simp <;> omega)), trivial⟩ fun a w h => then_normal (wp_seq ?_)
     refine at_regq [{}, {}, {}, {}, {}, {}, {}, {}, { frz := true }] { ts := [1, 4, 5, 6, 7, 17, 18, 19, 20, 30, 31, 32, 33, 34, 35, 36, 37], os := [1] } [(0 : Int) ≤ ((k : Nat) : Int) ∧ ((k : Nat) : Int) < ((List.length ((LA.gjAt x0 k).1.getD (LA.gp x0 k) []) : Nat) : Int), True, Q_spec_ScaleVector ((LA.gjAt x0 k).1.getD (LA.gp x0 k) []) (invF (((LA.gjAt x0 k).1.getD (LA.gp x0 k) []).getD k 0)), (0 : Int) ≤ (((LA.gjAt x0 k).2 : Nat) : Int) ∧ (((LA.gjAt x0 k).2 : Nat) : Int) < ((List.length (List.set (LA.gjAt x0 k).1 (LA.gp x0 k) ((LA.gjAt x0 k).1.getD (LA.gjAt x0 k).2 [])) : Nat) : Int), (LA.gjAt x0 k).2 < List.length (List.set (LA.gjAt x0 k).1 (LA.gp x0 k) ((LA.gjAt x0 k).1.getD (LA.gjAt x0 k).2 []))] gamOK hT h (by kernel_rfl) ⟨(by refine ⟨?_, ?_⟩ <;> (first | omega | (simp only [lsA]; omega) | (simp <;> omega))), trivial, (by exact fitV hpv hw2), (by refine ⟨?_, ?_⟩ <;> (first | omega | (simp only [lsA]; omega) | (simp <;> omega))), (by first | omega | (simp only [lsA]; omega) | (simp <;> omega)), trivial⟩ fun a w h => then_normal (wp_seq (wp_seq ?_))
     refine at_regq [] { ts := [1, 4, 5, 6, 7, 10, 17, 18, 19, 20, 30, 31, 32, 33, 34, 35, 36, 37], os := [1] } [] gamOK hT h (by kernel_rfl) trivial fun a w h => then_normal (wp_block ?_)
     replace h := at_out (σ' := ⟨[(1, aI x1), (4, .p (.c (cN))), (5, aS 1), (6, aI (((LA.gjAt x0 k).2 : Nat) : Int)), (7, aI ((k : Nat) : Int)), (10, aI 0), (17, aI (((LA.gjAt x0 k).2 : Nat) : Int)), (18, aS 1), (19, aI ((List.length (LA.gjAt x0 k).1 : Nat) : Int)), (20, aB (decide ((((LA.gjAt x0 k).2 : Nat) : Int) < ((List.length (LA.gjAt x0 k).1 : Nat) : Int)))), (30, .p (.c (.v undef))), (31, .p (.c (.v undef))), (32, .p (.c (.v undef))), (33, .p (.c (.v undef))), (34, .p (.c (.v undef))), (35, .p (.c (.v undef))), (36, .p (.c (.v undef))), (37, .p (.c (.v undef)))], [(1, oF s27 (List.set (List.set (LA.gjAt x0 k).1 (LA.gp x0 k) ((LA.gjAt x0 k).1.getD (LA.gjAt x0 k).2 [])) (LA.gjAt x0 k).2 (scaleV ((LA.gjAt x0 k).1.getD (LA.gp x0 k) []) (invF (((LA.gjAt x0 k).1.getD (LA.gp x0 k) []).getD k 0)))))]⟩) { ts := [1, 4, 5, 6, 7, 10, 17, 18, 19, 20, 30, 31, 32, 33, 34, 35, 36, 37], os := [1] } h (by kernel_rfl)
     refine at_loop (fun i : Nat => (⟨[(1, aI x1), (4, .p (.c (cN))), (5, aS 1), (6, aI (((LA.gjAt x0 k).2 : Nat) : Int)), (7, aI ((k : Nat) : Int)), (10, aI ((i : Nat) : Int)), (17, aI (((LA.gjAt x0 k).2 : Nat) : Int)), (18, aS 1), (19, aI ((List.length (LA.gjAt x0 k).1 : Nat) : Int)), (20, aB (decide ((((LA.gjAt x0 k).2 : Nat) : Int) < ((List.length (LA.gjAt x0 k).1 : Nat) : Int)))), (30, .p (.c (.v undef))), (31, .p (.c (.v undef))), (32, .p (.c (.v undef))), (33, .p (.c (.v undef))), (34, .p (.c (.v undef))), (35, .p (.c (.v undef))), (36, .p (.c (.v undef))), (37, .p (.c (.v undef)))], [(1, oF s27 (LA.gm x0 k i))]⟩ : St)) (fun i => i ≤ List.length (LA.gjAt x0 k).1) (fun i => List.length (LA.gjAt x0 k).1 - i) (0) h (st_congr2 (fun (d0 : List (List Int)) (d1 : Int) => (⟨[(1, aI x1), (4, .p (.c (cN))), (5, aS 1), (6, aI (((LA.gjAt x0 k).2 : Nat) : Int)), (7, aI ((k : Nat) : Int)), (10, aI d1), (17, aI (((LA.gjAt x0 k).2 : Nat) : Int)), (18, aS 1), (19, aI ((List.length (LA.gjAt x0 k).1 : Nat) : Int)), (20, aB (decide ((((LA.gjAt x0 k).2 : Nat) : Int) < ((List.length (LA.gjAt x0 k).1 : Nat) : Int)))), (30, .p (.c (.v undef))), (31, .p (.c (.v undef))), (32, .p (.c (.v undef))), (33, .p (.c (.v undef))), (34, .p (.c (.v undef))), (35, .p (.c (.v undef))), (36, .p (.c (.v undef))), (37, .p (.c (.v undef)))], [(1, oF s27 d0)]⟩ : St)) (show ((List.set (List.set (LA.gjAt x0 k).1 (LA.gp x0 k) ((LA.gjAt x0 k).1.getD (LA.gjAt x0 k).2 [])) (LA.gjAt x0 k).2 (scaleV ((LA.gjAt x0 k).1.getD (LA.gp x0 k) []) (invF (((LA.gjAt x0 k).1.getD (LA.gp x0 k) []).getD k 0)))) : List (List Int)) = (LA.gm x0 k (0)) from by first | with_reducible rfl | (exact LA.gm_zero (l7_lead hgv hw2 hgpl hgpz)) | rfl) (show (0 : Int) = (((0) : Nat) : Int) from by first | with_reducible rfl | (exact LA.gm_zero (l7_lead hgv hw2 hgpl hgpz)) | rfl)) (by omega) ?_
     intro i a w hok2 h
     have hml := LA.gm_len x0 k i
     refine wp_seq (wp_seq ?_)
     refine at_regq [] { ts := [1, 4, 5, 6, 7, 10, 17, 18, 19, 20, 30, 31, 32, 33, 34, 35, 36, 37, 69], os := [1] } [] gamOK hT h (by kernel_rfl) trivial fun a w h => then_normal ?_
     refine at_test (decide (((i : Nat) : Int) < ((List.length (LA.gm x0 k i) : Nat) : Int))) h (by kernel_rfl) (fun h10 => ?_) (fun h10 => ?_)
     ·replace h10 : ((i : Nat) : Int) < ((List.length (LA.gm x0 k i) : Nat) : Int) := of_decide_eq_true h10
      have hmi := LA.gm_ok (i := i) hw1 hat hgpl (show i < List.length (LA.gjAt x0 k).1 by omega)
      have hmil := hmi.1
      have hmir := hmi.rng k
      have hma := LA.gm_piv (i := i) hw1 hat hgpl
      have hmal := hma.1
      refine wp_skip (then_normal (wp_seq (wp_block (wp_seq ?_))))
      by_cases h11 : ((i : Nat) : Int) = (((LA.gjAt x0 k).2 : Nat) : Int)
      ·refine at_regq [{}, {}, { hint := some (aB false) }] { ts := [1, 4, 5, 6, 7, 10, 17, 18, 19, 20, 30, 31, 32, 33, 34, 35, 36, 37, 76, 77, 78, 79, 80, 81, 82, 83, 84], os := [1] } [(AV.p (.c (.v (.bool (!decide (((i : Nat) : Int) = (((LA.gjAt x0 k).2 : Nat) : Int)))))) = AV.p (.c (.v (.bool false))))] gamOK hT h (by kernel_rfl) ⟨hint_bool (ndT h11), trivial⟩ fun a w h => then_normal ?_
       refine at_test false h (by kernel_rfl) (fun hh => nomatch hh) (fun hh => ?_)
       refine wp_skip (in_normal (then_normal ?_))
       refine at_regq [{}, { nw := true }] { ts := [1, 4, 5, 6, 7, 10, 17, 18, 19, 20, 30, 31, 32, 33, 34, 35, 36, 37, 76, 77, 78, 79, 80, 81, 82, 83], os := [1] } [I64 (((i : Nat) : Int) + 1)] gamOK hT h (by kernel_rfl) ⟨⟨by first | omega | (simp only [lsA]; omega) | (simp <;> omega), by first | omega | (simp only [lsA]; omega) | (simp <;> omega)⟩, trivial⟩ fun a w h => ?_
       replace h := at_out (σ' := ⟨[(1, aI x1), (4, .p (.c (cN))), (5, aS 1), (6, aI (((LA.gjAt x0 k).2 : Nat) : Int)), (7, aI ((k : Nat) : Int)), (10, aI (((i : Nat) : Int) + 1)), (17, aI (((LA.gjAt x0 k).2 : Nat) : Int)), (18, aS 1), (19, aI ((List.length (LA.gjAt x0 k).1 : Nat) : Int)), (20, aB (decide ((((LA.gjAt x0 k).2 : Nat) : Int) < ((List.length (LA.gjAt x0 k).1 : Nat) : Int)))), (30, .p (.c (.v undef))), (31, .p (.c (.v undef))), (32, .p (.c (.v undef))), (33, .p (.c (.v undef))), (34, .p (.c (.v undef))), (35, .p (.c (.v undef))), (36, .p (.c (.v undef))), (37, .p (.c (.v undef)))], [(1, oF s27 (LA.gm x0 k i))]⟩) { ts := [1, 4, 5, 6, 7, 10, 17, 18, 19, 20, 30, 31, 32, 33, 34, 35, 36, 37], os := [1] } h (by kernel_rfl)
       exact ⟨i + 1, at_eq h (st_congr2 (fun (d0 : List (List Int)) (d1 : Int) => (⟨[(1, aI x1), (4, .p (.c (cN))), (5, aS 1), (6, aI (((LA.gjAt x0 k).2 : Nat) : Int)), (7, aI ((k : Nat) : Int)), (10, aI d1), (17, aI (((LA.gjAt x0 k).2 : Nat) : Int)), (18, aS 1), (19, aI ((List.length (LA.gjAt x0 k).1 : Nat) : Int)), (20, aB (decide ((((LA.gjAt x0 k).2 : Nat) : Int) < ((List.length (LA.gjAt x0 k).1 : Nat) : Int)))), (30, .p (.c (.v undef))), (31, .p (.c (.v undef))), (32, .p (.c (.v undef))), (33, .p (.c (.v undef))), (34, .p (.c (.v undef))), (35, .p (.c (.v undef))), (36, .p (.c (.v undef))), (37, .p (.c (.v undef)))], [(1, oF s27 d0)]⟩ : St)) (show ((LA.gm x0 k i) : List (List Int)) = (LA.gm x0 k (i + 1)) from by first | with_reducible rfl | (first | exact (LA.gm_same (by omega) (Or.inl (by omega))).symm | exact (LA.gm_same (by omega) (Or.inr (by assumption))).symm | (rw [addV_L hmi hma hw2 (by omega)]; exact (LA.gm_add (by omega) hat (by omega) (by assumption)).symm)) | rfl) (show (((i : Nat) : Int) + 1 : Int) = (((i + 1) : Nat) : Int) from by first | with_reducible rfl | (omega) | rfl)), (by omega), (by omega)⟩
      ·refine at_regq [{}, {}, { hint := some (aB true) }] { ts := [1, 4, 5, 6, 7, 10, 17, 18, 19, 20, 30, 31, 32, 33, 34, 35, 36, 37, 76, 77, 78, 79, 80, 81, 82, 83, 84], os := [1] } [(AV.p (.c (.v (.bool (!decide (((i : Nat) : Int) = (((LA.gjAt x0 k).2 : Nat) : Int)))))) = AV.p (.c (.v (.bool true)))), (0 : Int) ≤ ((i : Nat) : Int) ∧ ((i : Nat) : Int) < ((List.length (LA.gm x0 k i) : Nat) : Int), i < List.length (LA.gm x0 k i), (0 : Int) ≤ ((k : Nat) : Int) ∧ ((k : Nat) : Int) < ((List.length ((LA.gm x0 k i).getD i []) : Nat) : Int)] gamOK hT h (by kernel_rfl) ⟨hint_bool (ndF h11), (by refine ⟨?_, ?_⟩ <;> (first | omega | (simp only [lsA]; omega) | (simp <;> omega))), (by first | omega | (simp only [lsA]; omega) | (simp <;> omega)), (by refine ⟨?_, ?_⟩ <;> (first | omega | (simp only [lsA]; omega) | (simp <;> omega))), trivial⟩ fun a w h => then_normal ?_
       refine at_test (!decide ((((LA.gm x0 k i).getD i []).getD k 0) = 0)) h (by kernel_rfl) (fun h12 => ?_) (fun h12 => ?_)
       ·replace h12 : ¬ ((((LA.gm x0 k i).getD i []).getD k 0) = 0) := of_decide_eq_false (notT h12)
        refine at_anyq [{}, {}, {}, {}, {}, {}, {}, {}, {}, {}, {}, {}, {}, {}, {}, {}, {}, { nw := true }, { frz := true }, {}, {}] { ts := [1, 4, 5, 6, 7, 10, 17, 18, 19, 20, 30, 31, 32, 33, 34, 35, 36, 37, 76, 77, 78, 79, 80, 81, 82, 83], os := [1] } [(0 : Int) ≤ ((i : Nat) : Int) ∧ ((i : Nat) : Int) < ((List.length (LA.gm x0 k i) : Nat) : Int), i < List.length (LA.gm x0 k i), (0 : Int) ≤ (((LA.gjAt x0 k).2 : Nat) : Int) ∧ (((LA.gjAt x0 k).2 : Nat) : Int) < ((List.length (LA.gm x0 k i) : Nat) : Int), (LA.gjAt x0 k).2 < List.length (LA.gm x0 k i), (0 : Int) ≤ ((i : Nat) : Int) ∧ ((i : Nat) : Int) < ((List.length (LA.gm x0 k i) : Nat) : Int), i < List.length (LA.gm x0 k i), (0 : Int) ≤ ((k : Nat) : Int) ∧ ((k : Nat) : Int) < ((List.length ((LA.gm x0 k i).getD i []) : Nat) : Int), I64 (1019 - (((LA.gm x0 k i).getD i []).getD k 0)), Q_spec_AddScaled ((LA.gm x0 k i).getD i []) ((LA.gm x0 k i).getD (LA.gjAt x0 k).2 []) (1019 - (((LA.gm x0 k i).getD i []).getD k 0)), (0 : Int) ≤ ((i : Nat) : Int) ∧ ((i : Nat) : Int) < ((List.length (LA.gm x0 k i) : Nat) : Int), i < List.length (LA.gm x0 k i)] gamOK hT mixed h (by kernel_rfl) ⟨(by refine ⟨?_, ?_⟩ <;> (first | omega | (simp only [lsA]; omega) | (simp <;> omega))), (by first | omega | (simp only [lsA]; omega) | (simp <;> omega)), (by refine ⟨?_, ?_⟩ <;> (first | omega | (simp only [lsA]; omega) | (simp <;> omega))), (by first | omega | (simp only [lsA]; omega) | (simp <;> omega)), (by refine ⟨?_, ?_⟩ <;> (first | omega | (simp only [lsA]; omega) | (simp <;> omega))), (by first | omega | (simp only [lsA]; omega) | (simp <;> omega)), (by refine ⟨?_, ?_⟩ <;> (first | omega | (simp only [lsA]; omega) | (simp <;> omega))), ⟨by first | omega | (simp only [lsA]; omega) | (simp <;> omega), by first | omega | (simp only [lsA]; omega) | (simp <;> omega)⟩, (by exact ⟨fitV hmi hw2, fitV hma hw2⟩), (by refine ⟨?_, ?_⟩ <;> (first | omega | (simp only [lsA]; omega) | (simp <;> omega))), (by first | omega | (simp only [lsA]; omega) | (simp <;> omega)), trivial⟩ fun a w h => in_normal (then_normal ?_)
        refine at_regq [{}, { nw := true }] { ts := [1, 4, 5, 6, 7, 10, 17, 18, 19, 20, 30, 31, 32, 33, 34, 35, 36, 37, 76, 77, 78, 79, 80, 81, 82, 83], os := [1] } [I64 (((i : Nat) : Int) + 1)] gamOK hT h (by kernel_rfl) ⟨⟨by first | omega | (simp only [lsA]; omega) | (simp <;> omega), by first | omega | (simp only [lsA]; omega) | (simp <;> omega)⟩, trivial⟩ fun a w h => ?_
        replace h := at_out (σ' := ⟨[(1, aI x1), (4, .p (.c (cN))), (5, aS 1), (6, aI (((LA.gjAt x0 k).2 : Nat) : Int)), (7, aI ((k : Nat) : Int)), (10, aI (((i : Nat) : Int) + 1)), (17, aI (((LA.gjAt x0 k).2 : Nat) : Int)), (18, aS 1), (19, aI ((List.length (LA.gjAt x0 k).1 : Nat) : Int)), (20, aB (decide ((((LA.gjAt x0 k).2 : Nat) : Int) < ((List.length (LA.gjAt x0 k).1 : Nat) : Int)))), (30, .p (.c (.v undef))), (31, .p (.c (.v undef))), (32, .p (.c (.v undef))), (33, .p (.c (.v undef))), (34, .p (.c (.v undef))), (35, .p (.c (.v undef))), (36, .p (.c (.v undef))), (37, .p (.c (.v undef)))], [(1, oF s27 (List.set (LA.gm x0 k i) i (addV ((LA.gm x0 k i).getD i []) ((LA.gm x0 k i).getD (LA.gjAt x0 k).2 []) (1019 - (((LA.gm x0 k i).getD i []).getD k 0)))))]⟩) { ts := [1, 4, 5, 6, 7, 10, 17, 18, 19, 20, 30, 31, 32, 33, 34, 35, 36, 37], os := [1] } h (by kernel_rfl)
        exact ⟨i + 1, at_eq h (st_congr2 (fun (d0 : List (List Int)) (d1 : Int) => (⟨[(1, aI x1), (4, .p (.c (cN))), (5, aS 1), (6, aI (((LA.gjAt x0 k).2 : Nat) : Int)), (7, aI ((k : Nat) : Int)), (10, aI d1), (17, aI (((LA.gjAt x0 k).2 : Nat) : Int)), (18, aS 1), (19, aI ((List.length (LA.gjAt x0 k).1 : Nat) : Int)), (20, aB (decide ((((LA.gjAt x0 k).2 : Nat) : Int) < ((List.length (LA.gjAt x0 k).1 : Nat) : Int)))), (30, .p (.c (.v undef))), (31, .p (.c (.v undef))), (32, .p (.c (.v undef))), (33, .p (.c (.v undef))), (34, .p (.c (.v undef))), (35, .p (.c (.v undef))), (36, .p (.c (.v undef))), (37, .p (.c (.v undef)))], [(1, oF s27 d0)]⟩ : St)) (show ((List.set (LA.gm x0 k i) i (addV ((LA.gm x0 k i).getD i []) ((LA.gm x0 k i).getD (LA.gjAt x0 k).2 []) (1019 - (((LA.gm x0 k i).getD i []).getD k 0)))) : List (List Int)) = (LA.gm x0 k (i + 1)) from by first | with_reducible rfl | (first | exact (LA.gm_same (by omega) (Or.inl (by omega))).symm | exact (LA.gm_same (by omega) (Or.inr (by assumption))).symm | (rw [addV_L hmi hma hw2 (by omega)]; exact (LA.gm_add (by omega) hat (by omega) (by assumption)).symm)) | rfl) (show (((i : Nat) : Int) + 1 : Int) = (((i + 1) : Nat) : Int) from by first | with_reducible rfl | (omega) | rfl)), (by omega), (by omega)⟩
       ·replace h12 : (((LA.gm x0 k i).getD i []).getD k 0) = 0 := of_decide_eq_true (notF h12)
        refine wp_skip (in_normal (then_normal ?_))
        refine at_regq [{}, { nw := true }] { ts := [1, 4, 5, 6, 7, 10, 17, 18, 19, 20, 30, 31, 32, 33, 34, 35, 36, 37, 76, 77, 78, 79, 80, 81, 82, 83], os := [1] } [I64 (((i : Nat) : Int) + 1)] gamOK hT h (by kernel_rfl) ⟨⟨by first | omega | (simp only [lsA]; omega) | (simp <;> omega), by first | omega | (simp only [lsA]; omega) | (simp <;> omega)⟩, trivial⟩ fun a w h => ?_
        replace h := at_out (σ' := ⟨[(1, aI x1), (4, .p (.c (cN))), (5, aS 1), (6, aI (((LA.gjAt x0 k).2 : Nat) : Int)), (7, aI ((k : Nat) : Int)), (10, aI (((i : Nat) : Int) + 1)), (17, aI (((LA.gjAt x0 k).2 : Nat) : Int)), (18, aS 1), (19, aI ((List.length (LA.gjAt x0 k).1 : Nat) : Int)), (20, aB (decide ((((LA.gjAt x0 k).2 : Nat) : Int) < ((List.length (LA.gjAt x0 k).1 : Nat) : Int)))), (30, .p (.c (.v undef))), (31, .p (.c (.v undef))), (32, .p (.c (.v undef))), (33, .p (.c (.v undef))), (34, .p (.c (.v undef))), (35, .p (.c (.v undef))), (36, .p (.c (.v undef))), (37, .p (.c (.v undef)))], [(1, oF s27 (LA.gm x0 k i))]⟩) { ts := [1, 4, 5, 6, 7, 10, 17, 18, 19, 20, 30, 31, 32, 33, 34, 35, 36, 37], os := [1] } h (by kernel_rfl)
        exact ⟨i + 1, at_eq h (st_congr2 (fun (d0 : List (List Int)) (d1 : Int) => (⟨[(1, aI x1), (4, .p (.c (cN))), (5, aS 1), (6, aI (((LA.gjAt x0 k).2 : Nat) : Int)), (7, aI ((k : Nat) : Int)), (10, aI d1), (17, aI (((LA.gjAt x0 k).2 : Nat) : Int)), (18, aS 1), (19, aI ((List.length (LA.gjAt x0 k).1 : Nat) : Int)), (20, aB (decide ((((LA.gjAt x0 k).2 : Nat) : Int) < ((List.length (LA.gjAt x0 k).1 : Nat) : Int)))), (30, .p (.c (.v undef))), (31, .p (.c (.v undef))), (32, .p (.c (.v undef))), (33, .p (.c (.v undef))), (34, .p (.c (.v undef))), (35, .p (.c (.v undef))), (36, .p (.c (.v undef))), (37, .p (.c (.v undef)))], [(1, oF s27 d0)]⟩ : St)) (show ((LA.gm x0 k i) : List (List Int)) = (LA.gm x0 k (i + 1)) from by first | with_reducible rfl | (first | exact (LA.gm_same (by omega) (Or.inl (by omega))).symm | exact (LA.gm_same (by omega) (Or.inr (by assumption))).symm | (rw [addV_L hmi hma hw2 (by omega)]; exact (LA.gm_add (by omega) hat (by omega) (by assumption)).symm)) | rfl) (show (((i : Nat) : Int) + 1 : Int) = (((i + 1) : Nat) : Int) from by first | with_reducible rfl | (omega) | rfl)), (by omega), (by omega)⟩
     ·replace h10 : ¬ (((i : Nat) : Int) < ((List.length (LA.gm x0 k i) : Nat) : Int)) := of_decide_eq_false h10
      refine wp_exit (then_exit (then_exit (in_hit (then_normal ?_))))
      refine at_regq [{}, { nw := true }] { ts := [1, 4, 5, 6, 7, 17, 18, 19, 20, 30, 31, 32, 33, 34, 35, 36, 37], os := [1] } [I64 ((((LA.gjAt x0 k).2 : Nat) : Int) + 1)] gamOK hT h (by kernel_rfl) ⟨⟨by first | omega | (simp only [lsA]; omega) | (simp <;> omega), by first | omega | (simp only [lsA]; omega) | (simp <;> omega)⟩, trivial⟩ fun a w h => in_normal (then_normal ?_)
      refine at_regq [{}, { nw := true }] { ts := [1, 4, 5, 6, 7, 17, 18, 19, 20, 30, 31, 32, 33, 34, 35, 36, 37], os := [1] } [I64 (((k : Nat) : Int) + 1)] gamOK hT h (by kernel_rfl) ⟨⟨by first | omega | (simp only [lsA]; omega) | (simp <;> omega), by first | omega | (simp only [lsA]; omega) | (simp <;> omega)⟩, trivial⟩ fun a w h => ?_
      replace h := at_out (σ' := ⟨[(1, aI x1), (4, .p (.c (cN))), (5, aS 1), (6, aI ((((LA.gjAt x0 k).2 : Nat) : Int) + 1)), (7, aI (((k : Nat) : Int) + 1))], [(1, oF s27 (LA.gm x0 k i))]⟩) { ts := [1, 4, 5, 6, 7], os := [1] } h (by kernel_rfl)
      exact ⟨k + 1, at_eq h (st_congr3 (fun (d0 : List (List Int)) (d1 : Int) (d2 : Int) => (⟨[(1, aI x1), (4, .p (.c (cN))), (5, aS 1), (6, aI d1), (7, aI d2)], [(1, oF s27 d0)]⟩ : St)) (show ((LA.gm x0 k i) : List (List Int)) = (LA.gjAt x0 (k + 1)).1 from by first | with_reducible rfl | (first | (rw [LA.gm_none (by omega) (by omega)]; done) | (rw [LA.gm_done (i := i) hat (by omega) (by omega)]; try first | rfl | (dsimp only; omega))) | rfl) (show ((((LA.gjAt x0 k).2 : Nat) : Int) + 1 : Int) = (((LA.gjAt x0 (k + 1)).2 : Nat) : Int) from by first | with_reducible rfl | (first | (rw [LA.gm_none (by omega) (by omega)]; done) | (rw [LA.gm_done (i := i) hat (by omega) (by omega)]; try first | rfl | (dsimp only; omega))) | rfl) (show (((k : Nat) : Int) + 1 : Int) = (((k + 1) : Nat) : Int) from by first | with_reducible rfl | (omega) | rfl)), (by omega), (by omega)⟩
  ·replace h2 : ¬ ((((LA.gjAt x0 k).2 : Nat) : Int) < ((List.length (LA.gjAt x0 k).1 : Nat) : Int)) := of_decide_eq_false h2
   refine wp_exit (then_exit (then_exit (in_hit (then_normal (wp_seq ?_)))))
   refine at_regq [{}, {}, { ids := [2] }] { ts := [4], os := [2] } [(0 : Int) ≤ (((LA.gjAt x0 k).2 : Nat) : Int) ∧ (((LA.gjAt x0 k).2 : Nat) : Int) ≤ ((List.length (LA.gjAt x0 k).1 : Nat) : Int)] gamOK hT h (by kernel_rfl) ⟨(by refine ⟨?_, ?_⟩ <;> (first | omega | (simp only [lsA]; omega) | (simp <;> omega))), trivial⟩ fun a w h => then_normal (wp_ret ?_)
   exact at_return ((List.take (LA.gjAt x0 k).2 (LA.gjAt x0 k).1), ()) [] h (by kernel_rfl) trivial (congrArg (fun z => (z, ())) (show ((List.take (LA.gjAt x0 k).2 (LA.gjAt x0 k).1)) = D_spec_l7Reduce x0 x1 from by unfold D_spec_l7Reduce; (exact LA.gm_end hok0 (by omega))))
 ·refine at_regq [{}, {}, { hint := some (aB false) }] { ts := [1, 4, 5, 6, 7, 17, 18, 19, 20, 21], os := [1] } [(AV.p (.c (.v (.bool (decide (((k : Nat) : Int) < x1))))) = AV.p (.c (.v (.bool false))))] gamOK hT h (by kernel_rfl) ⟨hint_bool (decide_eq_false h1), trivial⟩ fun a w h => then_normal ?_
  refine at_test false h (by kernel_rfl) (fun hh => nomatch hh) (fun hh => ?_)
  refine wp_exit (then_exit (then_exit (in_hit (then_normal (wp_seq ?_)))))
  refine at_regq [{}, {}, { ids := [2] }] { ts := [4], os := [2] } [(0 : Int) ≤ (((LA.gjAt x0 k).2 : Nat) : Int) ∧ (((LA.gjAt x0 k).2 : Nat) : Int) ≤ ((List.length (LA.gjAt x0 k).1 : Nat) : Int)] gamOK hT h (by kernel_rfl) ⟨(by refine ⟨?_, ?_⟩ <;> (first | omega | (simp only [lsA]; omega) | (simp <;> omega))), trivial⟩ fun a w h => then_normal (wp_ret ?_)
  exact at_return ((List.take (LA.gjAt x0 k).2 (LA.gjAt x0 k).1), ()) [] h (by kernel_rfl) trivial (congrArg (fun z => (z, ())) (show ((List.take (LA.gjAt x0 k).2 (LA.gjAt x0 k).1)) = D_spec_l7Reduce x0 x1 from by unfold D_spec_l7Reduce; (exact LA.gm_end hok0 (by omega))))

def rowRed (x0 : (List (List Int))) : (List (List Int)) := (if (validM x0) = true then (D_spec_l7Reduce x0 (colsOf x0)) else ([] : List (List Int)))
abbrev Q_spec_RowReduce := (fun (x0 : (List (List Int))) => Sh.fit s44 x0)
def S_spec_RowReduce : Sum := { fid := 68, dom := [s44], cod := [s44], dp := false, fz := false, pre := fun x => Q_spec_RowReduce x.1, g := fun x => ((rowRed x.1), ()) }
def S_spec_RowReduce_tab : List (Nat × Sum) := [(58, S_spec_IsValidMatrix), (59, S_spec_ColumnsOf), (70, S_spec_l7Reduce)]
theorem S_spec_RowReduce_ok : FnOK Tryd.prog 68 S_spec_RowReduce := by
 refine at_enter 11 (fun x => ⟨[(0, aF s27 x.1)], []⟩) Tryd.func68 rfl (by kernel_rfl) (fun x => rfl) ?_
 rintro w0 Z0 ⟨x0, u⟩ a w
 revert x0
 intro (x0 : (List (List Int))) hpre hlens h
 replace hpre : Q_spec_RowReduce x0 := hpre
 have hT : TabOK Tryd.prog w0 [] S_spec_RowReduce_tab := (.cons S_spec_IsValidMatrix_ok (.cons S_spec_ColumnsOf_ok (.cons S_spec_l7Reduce_ok .nil)))
 have hf0 : Sh.fit s44 x0 := hpre
 have hn0_1 : List.length x0 ≤ 1073741824 := hf0.1
 refine wp_seq ?_
 refine at_regq [] { ts := [0, 2], os := [] } [] gamOK hT h (by kernel_rfl) trivial fun a w h => then_normal (wp_seq (wp_seq ?_))
 refine at_regq [] { ts := [0, 2, 5], os := [] } [Q_spec_IsValidMatrix x0] gamOK hT h (by kernel_rfl) ⟨(by exact hf0), trivial⟩ fun a w h => then_normal ?_
 refine at_test (!(validM x0)) h (by kernel_rfl) (fun h1 => ?_) (fun h1 => ?_)
 ·replace h1 : (validM x0) = false := notT h1
  refine wp_seq ?_
  refine at_regq [{ ids := [1], dp := false }] { ts := [0, 2], os := [1] } [] gamOK hT h (by kernel_rfl) trivial fun a w h => then_normal (wp_ret (then_ret ?_))
  exact at_return (([] : List (List Int)), ()) [] h (by kernel_rfl) trivial (congrArg (fun z => (z, ())) (show (([] : List (List Int))) = rowRed x0 from by first | rfl | (unfold rowRed; rw [if_neg (neT h1)])))
 ·replace h1 : (validM x0) = true := notF h1
  have hvh1 := validM_t h1
  refine wp_skip (then_normal (wp_seq ?_))
  refine at_regq [{}, {}, {}, { ids := [2] }] { ts := [2], os := [2] } [Q_spec_ColumnsOf x0, Q_spec_l7Reduce x0 (colsOf x0)] gamOK hT h (by kernel_rfl) ⟨(by exact hf0), (by exact ⟨hf0, l7P_of (by assumption)⟩), trivial⟩ fun a w h => then_normal (wp_ret ?_)
  exact at_return ((D_spec_l7Reduce x0 (colsOf x0)), ()) [] h (by kernel_rfl) trivial (congrArg (fun z => (z, ())) (show ((D_spec_l7Reduce x0 (colsOf x0))) = rowRed x0 from by first | rfl | (unfold rowRed; rw [if_pos h1])))
theorem rowRed_at {m : List (List Int)} (h : validM m = true) : rowRed m = LA.gjS m (List.length (m.getD 0 [])) := by
 unfold rowRed D_spec_l7Reduce
 rw [if_pos h, l7_cols]
theorem rowRed_fit {m : List (List Int)} (h : Sh.fit s44 m) : Sh.fit s44 (rowRed m) := by
 by_cases hv : validM m = true
 ·rw [rowRed_at hv]
  have hr := (LA.gjS_ok (validM_ok hv)).1
  have hl := hr.len
  have hc := l7_w hv
  exact fitM hr.ok hc (by omega)
 ·unfold rowRed; rw [if_neg hv]; exact Sh.fit_nil

def validG (x0 : T46) : Bool := (if (inR x0.1 0 1000000000000) = true then (if (inR ((List.length x0.2 : Nat) : Int) 1 8) = true then (if (validM x0.2) = true then (inR (colsOf x0.2) 1 16) else false) else false) else false)
abbrev Q_spec_IsValidGeneration := (fun (x0 : T46) => Sh.fit s46 x0)
def S_spec_IsValidGeneration : Sum := { fid := 45, dom := [s46], cod := [(.bool 4)], dp := true, fz := false, pre := fun x => Q_spec_IsValidGeneration x.1, g := fun x => ((validG x.1), ()) }
def S_spec_IsValidGeneration_tab : List (Nat × Sum) := [(50, S_spec_l1In), (58, S_spec_IsValidMatrix), (59, S_spec_ColumnsOf)]
theorem S_spec_IsValidGeneration_ok : FnOK Tryd.prog 45 S_spec_IsValidGeneration := by
 refine at_enter 23 (fun x => ⟨[(0, aG [cI x.1.1, .ro s27 x.1.2])], []⟩) Tryd.func45 rfl (by kernel_rfl) (fun x => rfl) ?_
 rintro w0 Z0 ⟨x0, u⟩ a w
 revert x0
 intro (x0 : T46) hpre hlens h
 replace hpre : Q_spec_IsValidGeneration x0 := hpre
 have hT : TabOK Tryd.prog w0 [] S_spec_IsValidGeneration_tab := (.cons S_spec_l1In_ok (.cons S_spec_IsValidMatrix_ok (.cons S_spec_ColumnsOf_ok .nil)))
 have hf0 : Sh.fit s46 x0 := hpre
 have hn0_1 : List.length x0.2 ≤ 1073741824 := hf0.2.1
 refine wp_seq ?_
 refine at_regq [{ ids := [1] }] { ts := [1, 2], os := [1] } [] gamOK hT h (by kernel_rfl) trivial fun a w h => then_normal (wp_seq ?_)
 rcases Bool.eq_false_or_eq_true ((inR x0.1 0 1000000000000)) with h1 | h1
 ·have hvh1 := inR_t h1
  rcases Bool.eq_false_or_eq_true ((inR ((List.length x0.2 : Nat) : Int) 1 8)) with h2 | h2
  ·have hvh2 := inR_t h2
   rcases Bool.eq_false_or_eq_true ((validM x0.2)) with h3 | h3
   ·have hvh3 := validM_t h3
    refine at_regq [{}, {}, { hint := some (aB true) }, {}, {}, {}, {}, { hint := some (aB true) }, {}, {}, {}, {}, { hint := some (aB true) }] { ts := [2], os := [] } [True, (AV.p (.c (.v (.bool ((inR x0.1 0 1000000000000))))) = AV.p (.c (.v (.bool true)))), True, (AV.p (.c (.v (.bool ((inR ((List.length x0.2 : Nat) : Int) 1 8))))) = AV.p (.c (.v (.bool true)))), Q_spec_IsValidMatrix x0.2, (AV.p (.c (.v (.bool ((validM x0.2))))) = AV.p (.c (.v (.bool true)))), Q_spec_ColumnsOf x0.2, True] gamOK hT h (by kernel_rfl) ⟨trivial, hint_bool (h1), trivial, hint_bool (h2), (by exact hf0.2), hint_bool (h3), (by exact hf0.2), trivial, trivial⟩ fun a w h => then_normal (wp_ret ?_)
    exact at_return ((inR (colsOf x0.2) 1 16), ()) [] h (by kernel_rfl) trivial (congrArg (fun z => (z, ())) (show ((inR (colsOf x0.2) 1 16)) = validG x0 from by first | rfl | (unfold validG; rw [if_pos h1, if_pos h2, if_pos h3])))
   ·refine at_regq [{}, {}, { hint := some (aB true) }, {}, {}, {}, {}, { hint := some (aB true) }, {}, {}, {}, {}, { hint := some (aB false) }] { ts := [2], os := [] } [True, (AV.p (.c (.v (.bool ((inR x0.1 0 1000000000000))))) = AV.p (.c (.v (.bool true)))), True, (AV.p (.c (.v (.bool ((inR ((List.length x0.2 : Nat) : Int) 1 8))))) = AV.p (.c (.v (.bool true)))), Q_spec_IsValidMatrix x0.2, (AV.p (.c (.v (.bool ((validM x0.2))))) = AV.p (.c (.v (.bool false))))] gamOK hT h (by kernel_rfl) ⟨trivial, hint_bool (h1), trivial, hint_bool (h2), (by exact hf0.2), hint_bool (h3), trivial⟩ fun a w h => then_normal (wp_ret ?_)
    exact at_return (false, ()) [] h (by kernel_rfl) trivial (congrArg (fun z => (z, ())) (show (false) = validG x0 from by first | rfl | (unfold validG; rw [if_pos h1, if_pos h2, if_neg (neT h3)])))
  ·have hvh2 := inR_f h2
   refine at_regq [{}, {}, { hint := some (aB true) }, {}, {}, {}, {}, { hint := some (aB false) }] { ts := [2], os := [] } [True, (AV.p (.c (.v (.bool ((inR x0.1 0 1000000000000))))) = AV.p (.c (.v (.bool true)))), True, (AV.p (.c (.v (.bool ((inR ((List.length x0.2 : Nat) : Int) 1 8))))) = AV.p (.c (.v (.bool false))))] gamOK hT h (by kernel_rfl) ⟨trivial, hint_bool (h1), trivial, hint_bool (h2), trivial⟩ fun a w h => then_normal (wp_ret ?_)
   exact at_return (false, ()) [] h (by kernel_rfl) trivial (congrArg (fun z => (z, ())) (show (false) = validG x0 from by first | rfl | (unfold validG; rw [if_pos h1, if_neg (neT h2)])))
 ·have hvh1 := inR_f h1
  refine at_regq [{}, {}, { hint := some (aB false) }] { ts := [2], os := [] } [True, (AV.p (.c (.v (.bool ((inR x0.1 0 1000000000000))))) = AV.p (.c (.v (.bool false))))] gamOK hT h (by kernel_rfl) ⟨trivial, hint_bool (h1), trivial⟩ fun a w h => then_normal (wp_ret ?_)
  exact at_return (false, ()) [] h (by kernel_rfl) trivial (congrArg (fun z => (z, ())) (show (false) = validG x0 from by first | rfl | (unfold validG; rw [if_neg (neT h1)])))
theorem validG_t {g : T46} (h : validG g = true) : (0 ≤ g.1 ∧ g.1 ≤ 1000000000000) ∧ (1 ≤ List.length g.2 ∧ List.length g.2 ≤ 8) ∧ validM g.2 = true ∧ (1 ≤ colsOf g.2 ∧ colsOf g.2 ≤ 16) := by
 unfold validG at h
 split at h
 ·split at h
  ·split at h
   ·rename_i h1 h2 h3
    have a1 := inR_t h1; have a2 := inR_t h2; have a3 := inR_t h
    exact ⟨a1, by omega, h3, a3⟩
   ·cases h
  ·cases h
 ·cases h
theorem colsOf_at {m : List (List Int)} (h : 1 ≤ List.length m) : colsOf m = ((List.length (m.getD 0 []) : Nat) : Int) := by unfold colsOf; rw [if_neg (by omega)]

def isFmt (x0 : Int) (x1 : Int) (x2 : Int) : Bool := (if (inR x0 0 1000000000000) = true then (if (inR x1 1 8) = true then (inR x2 1 16) else false) else false)
def S_spec_l14Range : Sum := { fid := 57, dom := [(.int 3), (.int 3), (.int 3)], cod := [(.bool 4)], dp := true, fz := false, pre := fun x => True, g := fun x => ((isFmt x.1 x.2.1 x.2.2.1), ()) }
def S_spec_l14Range_tab : List (Nat × Sum) := [(50, S_spec_l1In)]
theorem S_spec_l14Range_ok : FnOK Tryd.prog 57 S_spec_l14Range := by
 refine at_enter 17 (fun x => ⟨[(0, aI x.1), (1, aI x.2.1), (2, aI x.2.2.1)], []⟩) Tryd.func57 rfl (by kernel_rfl) (fun x => rfl) ?_
 rintro w0 Z0 ⟨x0, x1, x2, u⟩ a w
 revert x0 x1 x2
 intro (x0 : Int) (x1 : Int) (x2 : Int) hpre hlens h
 have hT : TabOK Tryd.prog w0 [] S_spec_l14Range_tab := (.cons S_spec_l1In_ok .nil)
 refine wp_seq ?_
 refine at_regq [] { ts := [0, 1, 2, 6], os := [] } [] gamOK hT h (by kernel_rfl) trivial fun a w h => then_normal (wp_seq ?_)
 rcases Bool.eq_false_or_eq_true ((inR x0 0 1000000000000)) with h1 | h1
 ·have hvh1 := inR_t h1
  rcases Bool.eq_false_or_eq_true ((inR x1 1 8)) with h2 | h2
  ·have hvh2 := inR_t h2
   refine at_regq [{}, { hint := some (aB true) }, {}, {}, { hint := some (aB true) }] { ts := [6], os := [] } [True, (AV.p (.c (.v (.bool ((inR x0 0 1000000000000))))) = AV.p (.c (.v (.bool true)))), True, (AV.p (.c (.v (.bool ((inR x1 1 8))))) = AV.p (.c (.v (.bool true)))), True] gamOK hT h (by kernel_rfl) ⟨trivial, hint_bool (h1), trivial, hint_bool (h2), trivial, trivial⟩ fun a w h => then_normal (wp_ret ?_)
   exact at_return ((inR x2 1 16), ()) [] h (by kernel_rfl) trivial (congrArg (fun z => (z, ())) (show ((inR x2 1 16)) = isFmt x0 x1 x2 from by first | rfl | (unfold isFmt; rw [if_pos h1, if_pos h2])))
  ·have hvh2 := inR_f h2
   refine at_regq [{}, { hint := some (aB true) }, {}, {}, { hint := some (aB false) }] { ts := [6], os := [] } [True, (AV.p (.c (.v (.bool ((inR x0 0 1000000000000))))) = AV.p (.c (.v (.bool true)))), True, (AV.p (.c (.v (.bool ((inR x1 1 8))))) = AV.p (.c (.v (.bool false))))] gamOK hT h (by kernel_rfl) ⟨trivial, hint_bool (h1), trivial, hint_bool (h2), trivial⟩ fun a w h => then_normal (wp_ret ?_)
   exact at_return (false, ()) [] h (by kernel_rfl) trivial (congrArg (fun z => (z, ())) (show (false) = isFmt x0 x1 x2 from by first | rfl | (unfold isFmt; rw [if_pos h1, if_neg (neT h2)])))
 ·have hvh1 := inR_f h1
  refine at_regq [{}, { hint := some (aB false) }] { ts := [6], os := [] } [True, (AV.p (.c (.v (.bool ((inR x0 0 1000000000000))))) = AV.p (.c (.v (.bool false))))] gamOK hT h (by kernel_rfl) ⟨trivial, hint_bool (h1), trivial⟩ fun a w h => then_normal (wp_ret ?_)
  exact at_return (false, ()) [] h (by kernel_rfl) trivial (congrArg (fun z => (z, ())) (show (false) = isFmt x0 x1 x2 from by first | rfl | (unfold isFmt; rw [if_neg (neT h1)])))
theorem isFmt_t {g s w : Int} (h : isFmt g s w = true) : (0 ≤ g ∧ g ≤ 1000000000000) ∧ (1 ≤ s ∧ s ≤ 8) ∧ (1 ≤ w ∧ w ≤ 16) := by
 unfold isFmt at h
 split at h
 ·split at h
  ·exact ⟨inR_t (by assumption), inR_t (by assumption), inR_t h⟩
  ·cases h
 ·cases h

def validP (x0 : T29) (x1 : Int) (x2 : Int) : Bool := (if (inR x0.1 0 1000000000000) = true then (if (inR x1 1 8) = true then (if (inR x2 1 16) = true then (if ((List.length x0.2.1 : Nat) : Int) = x1 then (if ((List.length x0.2.2 : Nat) : Int) = x2 then (if (validV x0.2.1) = true then (validV x0.2.2) else false) else false) else false) else false) else false) else false)
abbrev Q_spec_IsValidPacket := (fun (x0 : T29) (x1 : Int) (x2 : Int) => Sh.fit s29 x0)
def S_spec_IsValidPacket : Sum := { fid := 62, dom := [s29, (.int 3), (.int 3)], cod := [(.bool 4)], dp := true, fz := false, pre := fun x => Q_spec_IsValidPacket x.1 x.2.1 x.2.2.1, g := fun x => ((validP x.1 x.2.1 x.2.2.1), ()) }
def S_spec_IsValidPacket_tab : List (Nat × Sum) := [(50, S_spec_l1In), (46, S_spec_IsValidVector)]
theorem S_spec_IsValidPacket_ok : FnOK Tryd.prog 62 S_spec_IsValidPacket := by
 refine at_enter 42 (fun x => ⟨[(0, aG [cI x.1.1, .ro (.int 3) x.1.2.1, .ro (.int 3) x.1.2.2]), (1, aI x.2.1), (2, aI x.2.2.1)], []⟩) Tryd.func62 rfl (by kernel_rfl) (fun x => rfl) ?_
 rintro w0 Z0 ⟨x0, x1, x2, u⟩ a w
 revert x0 x1 x2
 intro (x0 : T29) (x1 : Int) (x2 : Int) hpre hlens h
 replace hpre : Q_spec_IsValidPacket x0 x1 x2 := hpre
 have hT : TabOK Tryd.prog w0 [] S_spec_IsValidPacket_tab := (.cons S_spec_l1In_ok (.cons S_spec_IsValidVector_ok .nil))
 have hf0 : Sh.fit s29 x0 := hpre
 have hn0_1 : List.length x0.2.1 ≤ 1073741824 := hf0.2.1.1
 have hn0_2 : List.length x0.2.2 ≤ 1073741824 := hf0.2.2.1
 refine wp_seq ?_
 refine at_regq [{ ids := [1] }] { ts := [1, 2, 3, 6], os := [1] } [] gamOK hT h (by kernel_rfl) trivial fun a w h => then_normal (wp_seq ?_)
 rcases Bool.eq_false_or_eq_true ((inR x0.1 0 1000000000000)) with h1 | h1
 ·have hvh1 := inR_t h1
  rcases Bool.eq_false_or_eq_true ((inR x1 1 8)) with h2 | h2
  ·have hvh2 := inR_t h2
   rcases Bool.eq_false_or_eq_true ((inR x2 1 16)) with h3 | h3
   ·have hvh3 := inR_t h3
    by_cases h4 : ((List.length x0.2.1 : Nat) : Int) = x1
    ·by_cases h5 : ((List.length x0.2.2 : Nat) : Int) = x2
     ·rcases Bool.eq_false_or_eq_true ((validV x0.2.1)) with h6 | h6
      ·have hvh6 := validV_t h6
       refine at_regq [{}, {}, { hint := some (aB true) }, {}, {}, { hint := some (aB true) }, {}, {}, {}, { hint := some (aB true) }, {}, {}, {}, {}, {}, {}, { hint := some (aB true) }, {}, {}, {}, {}, {}, {}, { hint := some (aB true) }, {}, {}, {}, {}, { hint := some (aB true) }] { ts := [6], os := [] } [True, (AV.p (.c (.v (.bool ((inR x0.1 0 1000000000000))))) = AV.p (.c (.v (.bool true)))), True, (AV.p (.c (.v (.bool ((inR x1 1 8))))) = AV.p (.c (.v (.bool true)))), True, (AV.p (.c (.v (.bool ((inR x2 1 16))))) = AV.p (.c (.v (.bool true)))), (AV.p (.c (.v (.bool (decide (((List.length x0.2.1 : Nat) : Int) = x1))))) = AV.p (.c (.v (.bool true)))), (AV.p (.c (.v (.bool (decide (((List.length x0.2.2 : Nat) : Int) = x2))))) = AV.p (.c (.v (.bool true)))), Q_spec_IsValidVector x0.2.1, (AV.p (.c (.v (.bool ((validV x0.2.1))))) = AV.p (.c (.v (.bool true)))), Q_spec_IsValidVector x0.2.2] gamOK hT h (by kernel_rfl) ⟨trivial, hint_bool (h1), trivial, hint_bool (h2), trivial, hint_bool (h3), hint_bool (decide_eq_true h4), hint_bool (decide_eq_true h5), (by exact hf0.2.1), hint_bool (h6), (by exact hf0.2.2), trivial⟩ fun a w h => then_normal (wp_ret ?_)
       exact at_return ((validV x0.2.2), ()) [] h (by kernel_rfl) trivial (congrArg (fun z => (z, ())) (show ((validV x0.2.2)) = validP x0 x1 x2 from by first | rfl | (unfold validP; rw [if_pos h1, if_pos h2, if_pos h3, if_pos h4, if_pos h5, if_pos h6])))
      ·refine at_regq [{}, {}, { hint := some (aB true) }, {}, {}, { hint := some (aB true) }, {}, {}, {}, { hint := some (aB true) }, {}, {}, {}, {}, {}, {}, { hint := some (aB true) }, {}, {}, {}, {}, {}, {}, { hint := some (aB true) }, {}, {}, {}, {}, { hint := some (aB false) }] { ts := [6], os := [] } [True, (AV.p (.c (.v (.bool ((inR x0.1 0 1000000000000))))) = AV.p (.c (.v (.bool true)))), True, (AV.p (.c (.v (.bool ((inR x1 1 8))))) = AV.p (.c (.v (.bool true)))), True, (AV.p (.c (.v (.bool ((inR x2 1 16))))) = AV.p (.c (.v (.bool true)))), (AV.p (.c (.v (.bool (decide (((List.length x0.2.1 : Nat) : Int) = x1))))) = AV.p (.c (.v (.bool true)))), (AV.p (.c (.v (.bool (decide (((List.length x0.2.2 : Nat) : Int) = x2))))) = AV.p (.c (.v (.bool true)))), Q_spec_IsValidVector x0.2.1, (AV.p (.c (.v (.bool ((validV x0.2.1))))) = AV.p (.c (.v (.bool false))))] gamOK hT h (by kernel_rfl) ⟨trivial, hint_bool (h1), trivial, hint_bool (h2), trivial, hint_bool (h3), hint_bool (decide_eq_true h4), hint_bool (decide_eq_true h5), (by exact hf0.2.1), hint_bool (h6), trivial⟩ fun a w h => then_normal (wp_ret ?_)
       exact at_return (false, ()) [] h (by kernel_rfl) trivial (congrArg (fun z => (z, ())) (show (false) = validP x0 x1 x2 from by first | rfl | (unfold validP; rw [if_pos h1, if_pos h2, if_pos h3, if_pos h4, if_pos h5, if_neg (neT h6)])))
     ·refine at_regq [{}, {}, { hint := some (aB true) }, {}, {}, { hint := some (aB true) }, {}, {}, {}, { hint := some (aB true) }, {}, {}, {}, {}, {}, {}, { hint := some (aB true) }, {}, {}, {}, {}, {}, {}, { hint := some (aB false) }] { ts := [6], os := [] } [True, (AV.p (.c (.v (.bool ((inR x0.1 0 1000000000000))))) = AV.p (.c (.v (.bool true)))), True, (AV.p (.c (.v (.bool ((inR x1 1 8))))) = AV.p (.c (.v (.bool true)))), True, (AV.p (.c (.v (.bool ((inR x2 1 16))))) = AV.p (.c (.v (.bool true)))), (AV.p (.c (.v (.bool (decide (((List.length x0.2.1 : Nat) : Int) = x1))))) = AV.p (.c (.v (.bool true)))), (AV.p (.c (.v (.bool (decide (((List.length x0.2.2 : Nat) : Int) = x2))))) = AV.p (.c (.v (.bool false))))] gamOK hT h (by kernel_rfl) ⟨trivial, hint_bool (h1), trivial, hint_bool (h2), trivial, hint_bool (h3), hint_bool (decide_eq_true h4), hint_bool (decide_eq_false h5), trivial⟩ fun a w h => then_normal (wp_ret ?_)
      exact at_return (false, ()) [] h (by kernel_rfl) trivial (congrArg (fun z => (z, ())) (show (false) = validP x0 x1 x2 from by first | rfl | (unfold validP; rw [if_pos h1, if_pos h2, if_pos h3, if_pos h4, if_neg h5])))
    ·refine at_regq [{}, {}, { hint := some (aB true) }, {}, {}, { hint := some (aB true) }, {}, {}, {}, { hint := some (aB true) }, {}, {}, {}, {}, {}, {}, { hint := some (aB false) }] { ts := [6], os := [] } [True, (AV.p (.c (.v (.bool ((inR x0.1 0 1000000000000))))) = AV.p (.c (.v (.bool true)))), True, (AV.p (.c (.v (.bool ((inR x1 1 8))))) = AV.p (.c (.v (.bool true)))), True, (AV.p (.c (.v (.bool ((inR x2 1 16))))) = AV.p (.c (.v (.bool true)))), (AV.p (.c (.v (.bool (decide (((List.length x0.2.1 : Nat) : Int) = x1))))) = AV.p (.c (.v (.bool false))))] gamOK hT h (by kernel_rfl) ⟨trivial, hint_bool (h1), trivial, hint_bool (h2), trivial, hint_bool (h3), hint_bool (decide_eq_false h4), trivial⟩ fun a w h => then_normal (wp_ret ?_)
     exact at_return (false, ()) [] h (by kernel_rfl) trivial (congrArg (fun z => (z, ())) (show (false) = validP x0 x1 x2 from by first | rfl | (unfold validP; rw [if_pos h1, if_pos h2, if_pos h3, if_neg h4])))
   ·have hvh3 := inR_f h3
    refine at_regq [{}, {}, { hint := some (aB true) }, {}, {}, { hint := some (aB true) }, {}, {}, {}, { hint := some (aB false) }] { ts := [6], os := [] } [True, (AV.p (.c (.v (.bool ((inR x0.1 0 1000000000000))))) = AV.p (.c (.v (.bool true)))), True, (AV.p (.c (.v (.bool ((inR x1 1 8))))) = AV.p (.c (.v (.bool true)))), True, (AV.p (.c (.v (.bool ((inR x2 1 16))))) = AV.p (.c (.v (.bool false))))] gamOK hT h (by kernel_rfl) ⟨trivial, hint_bool (h1), trivial, hint_bool (h2), trivial, hint_bool (h3), trivial⟩ fun a w h => then_normal (wp_ret ?_)
    exact at_return (false, ()) [] h (by kernel_rfl) trivial (congrArg (fun z => (z, ())) (show (false) = validP x0 x1 x2 from by first | rfl | (unfold validP; rw [if_pos h1, if_pos h2, if_neg (neT h3)])))
  ·have hvh2 := inR_f h2
   refine at_regq [{}, {}, { hint := some (aB true) }, {}, {}, { hint := some (aB false) }] { ts := [6], os := [] } [True, (AV.p (.c (.v (.bool ((inR x0.1 0 1000000000000))))) = AV.p (.c (.v (.bool true)))), True, (AV.p (.c (.v (.bool ((inR x1 1 8))))) = AV.p (.c (.v (.bool false))))] gamOK hT h (by kernel_rfl) ⟨trivial, hint_bool (h1), trivial, hint_bool (h2), trivial⟩ fun a w h => then_normal (wp_ret ?_)
   exact at_return (false, ()) [] h (by kernel_rfl) trivial (congrArg (fun z => (z, ())) (show (false) = validP x0 x1 x2 from by first | rfl | (unfold validP; rw [if_pos h1, if_neg (neT h2)])))
 ·have hvh1 := inR_f h1
  refine at_regq [{}, {}, { hint := some (aB false) }] { ts := [6], os := [] } [True, (AV.p (.c (.v (.bool ((inR x0.1 0 1000000000000))))) = AV.p (.c (.v (.bool false))))] gamOK hT h (by kernel_rfl) ⟨trivial, hint_bool (h1), trivial⟩ fun a w h => then_normal (wp_ret ?_)
  exact at_return (false, ()) [] h (by kernel_rfl) trivial (congrArg (fun z => (z, ())) (show (false) = validP x0 x1 x2 from by first | rfl | (unfold validP; rw [if_neg (neT h1)])))
theorem validP_t {p : T29} {s w : Int} (h : validP p s w = true) : isFmt p.1 s w = true ∧ ((List.length p.2.1 : Nat) : Int) = s ∧ ((List.length p.2.2 : Nat) : Int) = w ∧ validV p.2.1 = true ∧ validV p.2.2 = true := by
 unfold validP at h
 (repeat' split at h) <;> first | (cases h; done) | (refine ⟨?_, by assumption, by assumption, by assumption, h⟩; first | assumption | (unfold isFmt; simp_all))
theorem validP_n {p : T29} {s w : Int} (h : validP p s w = true) : ((0 ≤ p.1 ∧ p.1 ≤ 1000000000000) ∧ (1 ≤ s ∧ s ≤ 8) ∧ (1 ≤ w ∧ w ≤ 16)) ∧ ((List.length p.2.1 : Nat) : Int) = s ∧ ((List.length p.2.2 : Nat) : Int) = w := ⟨isFmt_t (validP_t h).1, (validP_t h).2.1, (validP_t h).2.2.1⟩
theorem validP_of {p : T29} {s w : Int} (h : isFmt p.1 s w = true ∧ ((List.length p.2.1 : Nat) : Int) = s ∧ ((List.length p.2.2 : Nat) : Int) = w ∧ validV p.2.1 = true ∧ validV p.2.2 = true) : validP p s w = true := by
 obtain ⟨h1, h2, h3, h4, h5⟩ := h
 unfold validP
 first | (rw [if_pos h1, if_pos h2, if_pos h3, if_pos h4]; exact h5) | (unfold isFmt at h1; simp_all)

def insD (b : Int × List (List Int)) (v : List Int) : Bool := (LA.insS b.2 v).2
def cofs (ps : List T29) : List (List Int) := ps.map fun p => p.2.1
theorem cofs_at {ps : List T29} {i : Nat} (h : i < ps.length) : (cofs ps).getD i [] = (ps.getD i (0, ([], []))).2.1 := by
 unfold cofs; rw [getD_of_lt (by simpa using h), getD_of_lt h, List.getElem_map]
theorem cofs_len (ps : List T29) : (cofs ps).length = ps.length := by simp [cofs]
theorem cofs_snoc (ps : List T29) (p : T29) : cofs (ps ++ [p]) = cofs ps ++ [p.2.1] := by simp [cofs]
theorem insTo_app (vs us : List (List Int)) : ∀ i, i ≤ vs.length → LA.insTo (vs ++ us) i = LA.insTo vs i
 | 0, _ => rfl
 | i + 1, h => by
  simp only [LA.insTo]
  rw [insTo_app vs us i (by omega), show (vs ++ us).getD i [] = vs.getD i [] from by rw [List.getD_eq_getElem?_getD, List.getElem?_append_left (by omega), List.getD_eq_getElem?_getD]]
theorem insOk_app (vs us : List (List Int)) {i : Nat} (h : i < vs.length) : LA.insOk (vs ++ us) i = LA.insOk vs i := by
 unfold LA.insOk
 rw [insTo_app vs us i (by omega), show (vs ++ us).getD i [] = vs.getD i [] from by rw [List.getD_eq_getElem?_getD, List.getElem?_append_left (by omega), List.getD_eq_getElem?_getD]]
def okPkt (r : T51) (p : T29) : Bool := validP p r.2.1 r.2.2.1 && decide (p.1 = r.1)
theorem okPkt_v {r : T51} {p : T29} (h : okPkt r p = true) : ((0 ≤ p.1 ∧ p.1 ≤ 1000000000000) ∧ (1 ≤ r.2.1 ∧ r.2.1 ≤ 8) ∧ (1 ≤ r.2.2.1 ∧ r.2.2.1 ≤ 16)) ∧ LA.VokB r.2.1.toNat p.2.1 := by
 unfold okPkt at h
 rw [Bool.and_eq_true] at h
 have h1 := validP_t h.1
 have h2 := isFmt_t h1.1
 exact ⟨h2, by have := h1.2.1; omega, (validV_t h1.2.2.2.1).2.1⟩
theorem okPkt_t {r : T51} {p : T29} (h1 : validP p r.2.1 r.2.2.1 = true) (h2 : p.1 = r.1) : okPkt r p = true := by unfold okPkt; rw [h1, decide_eq_true h2]; rfl
theorem okPkt_f {r : T51} {p : T29} (h : validP p r.2.1 r.2.2.1 = false ∨ ¬ p.1 = r.1) : okPkt r p = false := by
 unfold okPkt; rw [Bool.and_eq_false_iff]
 rcases h with h | h
 ·exact .inl h
 ·exact .inr (decide_eq_false h)
theorem fit_snoc {xs : List T29} {x : T29} (h : Sh.fit s49 xs) (hx : Sh.fit s29 x) (hl : List.length xs ≤ 1073741823) : Sh.fit s49 (xs ++ [x]) := ⟨by rw [List.length_append, List.length_singleton]; omega, fun y hy => by
 rcases List.mem_append.1 hy with hy | hy
 ·exact h.2 y hy
 ·rw [List.mem_singleton.1 hy]; exact hx⟩
def recB (r : T51) (i : Nat) : Bool := okPkt r (r.2.2.2.1.getD i (0, ([], []))) && LA.insOk (cofs r.2.2.2.1) i
def validR (r : T51) : Bool := (isFmt r.1 r.2.1 r.2.2.1 && (decide (List.length r.2.2.2.1 ≤ 8) && inR r.2.2.2.2 0 1000000000000)) && allN (recB r) (List.length r.2.2.2.1)
theorem rec_vok {r : T51} {i : Nat} (hi : i ≤ r.2.2.2.1.length) (h : allN (recB r) i = true) : ∀ v ∈ (cofs r.2.2.2.1).take i, LA.VokB r.2.1.toNat v := fun v hv => by
 obtain ⟨j, hj, rfl⟩ := List.getElem_of_mem hv
 rw [List.length_take, cofs_len] at hj
 have h1 := allN_iff.1 h j (by omega)
 unfold recB at h1
 rw [Bool.and_eq_true] at h1
 have h2 := (okPkt_v h1.1).2
 rw [← cofs_at (by omega), getD_of_lt (by rw [cofs_len]; omega)] at h2
 rw [List.getElem_take]; exact h2
theorem validR_t {r : T51} (h : validR r = true) : ((0 ≤ r.1 ∧ r.1 ≤ 1000000000000) ∧ (1 ≤ r.2.1 ∧ r.2.1 ≤ 8) ∧ (1 ≤ r.2.2.1 ∧ r.2.2.1 ≤ 16)) ∧ List.length r.2.2.2.1 ≤ 8 ∧ (0 ≤ r.2.2.2.2 ∧ r.2.2.2.2 ≤ 1000000000000) ∧ allN (recB r) (List.length r.2.2.2.1) = true := by
 unfold validR at h
 rw [Bool.and_eq_true, Bool.and_eq_true, Bool.and_eq_true] at h
 exact ⟨isFmt_t h.1.1, of_decide_eq_true h.1.2.1, inR_t h.1.2.2, h.2⟩
theorem validR_y {r : T51} (h1 : isFmt r.1 r.2.1 r.2.2.1 = true) (h2 : List.length r.2.2.2.1 ≤ 8) (h3 : inR r.2.2.2.2 0 1000000000000 = true) : allN (recB r) (List.length r.2.2.2.1) = validR r := by unfold validR; rw [h1, decide_eq_true h2, h3]; rfl
theorem validR_n {r : T51} (h : isFmt r.1 r.2.1 r.2.2.1 = false ∨ ¬ List.length r.2.2.2.1 ≤ 8 ∨ inR r.2.2.2.2 0 1000000000000 = false ∨ allN (recB r) (List.length r.2.2.2.1) = false) : false = validR r := by
 unfold validR
 rcases h with h | h | h | h
 ·rw [h]; rfl
 ·rw [decide_eq_false h]; simp
 ·rw [h]; simp
 ·rw [h]; simp
theorem ok_rec {r : T51} (h : allN (fun j => okPkt r (r.2.2.2.1.getD j (0, ([], [])))) (List.length r.2.2.2.1) = false) : allN (recB r) (List.length r.2.2.2.1) = false := by
 rw [Bool.eq_false_iff] at *
 intro e; apply h
 rw [allN_iff] at *
 intro j hj
 have := e j hj
 unfold recB at this
 rw [Bool.and_eq_true] at this; exact this.1
def recP (r : T51) : Prop := List.length r.2.2.2.1 ≤ 8 ∧ ∀ v ∈ cofs r.2.2.2.1, LA.VokB r.2.1.toNat v
theorem recP_of {r : T51} (h : validR r = true) : recP r := by
 have h1 := validR_t h
 refine ⟨h1.2.1, ?_⟩
 have := rec_vok (Nat.le_refl _) h1.2.2.2
 rwa [← cofs_len, List.take_length] at this
def accOK (r : T51) (p : T29) : Bool := !decide (List.length r.2.2.2.1 = 8) && (okPkt r p && insD (r.2.1, LA.insTo (cofs r.2.2.2.1) (List.length r.2.2.2.1)) p.2.1)
def accU (r : T51) (p : T29) : T51 := if accOK r p = true then (r.1, r.2.1, r.2.2.1, r.2.2.2.1 ++ [p], r.2.2.2.2) else r
theorem accU_yes {r : T51} {p : T29} (h : accOK r p = true) : accU r p = (r.1, r.2.1, r.2.2.1, r.2.2.2.1 ++ [p], r.2.2.2.2) := if_pos h
theorem accU_no {r : T51} {p : T29} (h : accOK r p = false) : accU r p = r := if_neg (by rw [h]; decide)
def acceptR (r : T51) (p : T29) : T51 × Bool := if validR r = true ∧ accOK r p = true then (accU r p, true) else (r, false)
theorem allN_congr {P Q : Nat → Bool} : ∀ {n : Nat}, (∀ j, j < n → P j = Q j) → allN P n = allN Q n
 | 0, _ => rfl
 | n + 1, h => by simp only [allN]; rw [allN_congr (n := n) fun j hj => h j (by omega), h n (by omega)]
theorem getD_app {α : Type} {xs ys : List α} {z : α} {j : Nat} (h : j < xs.length) : (xs ++ ys).getD j z = xs.getD j z := by rw [List.getD_eq_getElem?_getD, List.getElem?_append_left h, List.getD_eq_getElem?_getD]
theorem getD_end {α : Type} {xs : List α} {y z : α} : (xs ++ [y]).getD xs.length z = y := by rw [List.getD_eq_getElem?_getD, List.getElem?_append_right (Nat.le_refl _)]; simp
end Go.Proofs.YtpffjagdefkfkaaDoor

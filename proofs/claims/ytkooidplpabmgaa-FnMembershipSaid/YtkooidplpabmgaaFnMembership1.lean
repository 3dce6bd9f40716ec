/- The walks of the functions that the law reaches: each summary holds. No condition. -/
import Derived.Test.YtkooidplpabmgaaPU
import Derived.Test.YtkooidplpabmgaaLA
import Derived.Test.YtkooidplpabmgaaProg
namespace Go.Proofs.Ytkooidplpabmgaa
open Go.RowKit
set_option linter.unusedVariables false
set_option linter.unusedSimpArgs false
abbrev s24 : Sh := .sl 24 (.int 3)
abbrev s65 : Sh := .sl 65 s24
abbrev s26 : Sh := .st 26 (.pair (.int 3) (.pair (.int 3) s24))
abbrev T26 : Type := (Int × (Int × (List Int)))
abbrev s22 : Sh := .sl 22 (.u8 5)
abbrev s53 : Sh := .st 53 (.pair s22 (.pair (.int 3) (.int 3)))
abbrev T53 : Type := ((List Int) × (Int × Int))
abbrev s36 : Sh := .st 36 (.pair (.int 3) (.pair (.int 3) (.pair (.int 3) (.int 3))))
abbrev T36 : Type := (Int × (Int × (Int × Int)))
abbrev s33 : Sh := .sl 33 s36
def gam : Gam := [(24, (.int 3), 8), (65, s24, 24), (33, s36, 32)]
theorem gamOK : GamOK Try.prog gam := (.cons (Elem.of (.int .i64 0) Try.underlying24 (by kernel_rfl) rfl (by decide) (by decide)) (.cons (Elem.of (.slice none 0 0) Try.underlying65 (by kernel_rfl) rfl (by decide) (by decide)) (.cons (Elem.of (.agg #[(.int .i64 0), (.int .i64 0), (.int .i64 0), (.int .i64 0)]) Try.underlying33 (by kernel_rfl) rfl (by decide) (by decide)) .nil)))
theorem mixed : Try.prog.follows .mixedOrders = true := by kernel_rfl
theorem lsA {α : Type} : (∀ xs ys : List α, (xs ++ ys).length = xs.length + ys.length) ∧ (∀ (x : α) (xs : List α), (x :: xs).length = xs.length + 1) ∧ (([] : List α).length = 0) ∧ (∀ (xs : List α) (i : Nat) (a : α), (xs.set i a).length = xs.length) ∧ (∀ (xs : List α) (n : Nat), (xs.take n).length = min n xs.length) ∧ (∀ (xs : List α) (n : Nat), (xs.drop n).length = xs.length - n) ∧ (∀ (n : Nat) (a : α), (List.replicate n a).length = n) := ⟨fun _ _ => List.length_append, fun _ _ => rfl, rfl, fun _ _ _ => List.length_set, fun _ _ => List.length_take, fun _ _ => List.length_drop, fun _ _ => List.length_replicate⟩
def inR (n lo hi : Int) : Bool := decide (lo ≤ n ∧ n ≤ hi)
theorem inR_t {n a b : Int} (h : inR n a b = true) : a ≤ n ∧ n ≤ b := of_decide_eq_true h
theorem inR_f {n a b : Int} (h : inR n a b = false) : n < a ∨ b < n := by have := of_decide_eq_false h; omega
theorem inR_true {n a b : Int} (h : a ≤ n ∧ n ≤ b) : inR n a b = true := decide_eq_true h
def lenOK {α : Type} (xs : List α) : Prop := xs.length ≤ 1073741824
def idL {α : Type} (xs : List α) : List α := xs
def u8L (xs : List Int) : Prop := ∀ e : Int, List.Mem e xs → (0 : Int) ≤ e ∧ e < (256 : Int)
theorem getD_u8 {xs : List Int} (h : u8L xs) (i : Nat) : (0 : Int) ≤ xs.getD i 0 ∧ xs.getD i 0 < (256 : Int) := by
 by_cases l : i < xs.length
 ·rw [List.getD_eq_getElem?_getD, List.getElem?_eq_getElem l]; exact h _ (List.getElem_mem l)
 ·rw [List.getD_eq_getElem?_getD, List.getElem?_eq_none (by omega)]; constructor <;> decide
section
variable {α β : Type}
def noneTo (p : α → Bool) (xs : List α) (z : α) (i : Nat) : Prop := ∀ j, j < i → p (xs.getD j z) = false
def idxF (p : α → Bool) : List α → Int
 | [] => -1
 | x :: l => if p x = true then 0 else if idxF p l < 0 then -1 else idxF p l + 1
theorem noneTo_zero {p : α → Bool} {xs : List α} {z : α} : noneTo p xs z 0 := fun j h => by omega
theorem noneTo_succ {p : α → Bool} {xs : List α} {z : α} {i : Nat} (h : noneTo p xs z i) (k : p (xs.getD i z) = false) : noneTo p xs z (i + 1) := fun j hj => by
 by_cases e : j = i
 ·subst e; exact k
 ·exact h j (by omega)
theorem idxF_at {p : α → Bool} {z : α} : ∀ {xs : List α} {i : Nat}, i < xs.length → noneTo p xs z i → p (xs.getD i z) = true → idxF p xs = i
 | [], _, h, _, _ => by simp at h
 | x :: l, 0, _, _, k => by
  have k : p x = true := k
  simp [idxF, k]
 | x :: l, i + 1, h, hn, k => by
  have h0 : p x = false := hn 0 (by omega)
  have := idxF_at (xs := l) (i := i) (by simpa using h) (fun j hj => by have := hn (j + 1) (by omega); simpa using this) (by simpa using k)
  simp only [idxF, h0, this]
  rw [if_neg (by decide), if_neg (by omega)]
  omega
theorem idxF_none {p : α → Bool} {z : α} : ∀ {xs : List α} {i : Nat}, xs.length ≤ i → noneTo p xs z i → idxF p xs = -1
 | [], _, _, _ => rfl
 | x :: l, 0, h, _ => by simp at h
 | x :: l, i + 1, h, hn => by
  have h0 : p x = false := hn 0 (by omega)
  have := idxF_none (xs := l) (i := i) (by simpa using h) (fun j hj => by have := hn (j + 1) (by omega); simpa using this)
  simp [idxF, h0, this]
theorem idxF_pos {p : α → Bool} : ∀ {xs : List α}, 0 ≤ idxF p xs ↔ xs.any p = true
 | [] => by simp [idxF]
 | x :: l => by
  have := idxF_pos (xs := l) (p := p)
  simp only [idxF, List.any_cons, Bool.or_eq_true, ← this]
  by_cases hx : p x = true
  ·simp [hx]
  ·rw [if_neg hx]
   split
   ·rename_i h; constructor
    ·intro h'; omega
    ·rintro (h' | h')
     ·exact absurd h' hx
     ·omega
   ·rename_i h; constructor
    ·intro h'; right; omega
    ·intro _; omega
theorem idxF_any {p : α → Bool} {xs : List α} : decide (idxF p xs ≥ 0) = xs.any p := by
 rw [Bool.eq_iff_iff, decide_eq_true_iff]; exact idxF_pos
def allTo2 (e : α → β → Bool) (xs : List α) (ys : List β) (z : α) (y : β) (i : Nat) : Prop := ∀ j, j < i → e (xs.getD j z) (ys.getD j y) = true
def eqF (e : α → β → Bool) : List α → List β → Bool
 | [], [] => true
 | x :: l, y :: l' => e x y && eqF e l l'
 | _, _ => false
theorem allTo2_zero {e : α → β → Bool} {xs : List α} {ys : List β} {z : α} {y : β} : allTo2 e xs ys z y 0 := fun j h => by omega
theorem allTo2_succ {e : α → β → Bool} {xs : List α} {ys : List β} {z : α} {y : β} {i : Nat} (h : allTo2 e xs ys z y i) (k : e (xs.getD i z) (ys.getD i y) = true) : allTo2 e xs ys z y (i + 1) := fun j hj => by
 by_cases e : j = i
 ·subst e; exact k
 ·exact h j (by omega)
theorem eqF_len {e : α → β → Bool} : ∀ {xs : List α} {ys : List β}, xs.length ≠ ys.length → eqF e xs ys = false
 | [], [], h => absurd rfl h
 | [], _ :: _, _ => rfl
 | _ :: _, [], _ => rfl
 | _ :: l, _ :: l', h => by simp only [eqF]; rw [eqF_len (xs := l) (ys := l') (by simpa using h), Bool.and_false]
theorem eqF_at {e : α → β → Bool} {z : α} {y : β} : ∀ {xs : List α} {ys : List β} {i : Nat}, i < xs.length → i < ys.length → e (xs.getD i z) (ys.getD i y) = false → eqF e xs ys = false
 | x :: l, y' :: l', 0, _, _, h => by
  have h : e x y' = false := h
  simp [eqF, h]
 | x :: l, y' :: l', i + 1, h1, h2, h => by simp only [eqF]; rw [eqF_at (xs := l) (ys := l') (i := i) (by simpa using h1) (by simpa using h2) (by simpa using h), Bool.and_false]
 | [], _, _, h1, _, _ => by simp at h1
 | _ :: _, [], _, _, h2, _ => by simp at h2
theorem eqF_all {e : α → β → Bool} {z : α} {y : β} : ∀ {xs : List α} {ys : List β} {i : Nat}, xs.length = ys.length → xs.length ≤ i → allTo2 e xs ys z y i → eqF e xs ys = true
 | [], [], _, _, _, _ => rfl
 | [], _ :: _, _, h, _, _ => by simp at h
 | _ :: _, [], _, h, _, _ => by simp at h
 | x :: l, y' :: l', 0, _, h, _ => by simp at h
 | x :: l, y' :: l', i + 1, h, hi, ha => by
  have h0 : e x y' = true := ha 0 (by omega)
  simp only [eqF]
  rw [h0, eqF_all (xs := l) (ys := l') (i := i) (by simpa using h) (by simpa using hi) (fun j hj => by have := ha (j + 1) (by omega); simpa using this)]
  rfl
def allTo1 (p : α → Bool) (xs : List α) (z : α) (i : Nat) : Prop := ∀ j, j < i → p (xs.getD j z) = true
theorem allTo1_zero {p : α → Bool} {xs : List α} {z : α} : allTo1 p xs z 0 := fun j h => by omega
theorem allTo1_succ {p : α → Bool} {xs : List α} {z : α} {i : Nat} (h : allTo1 p xs z i) (k : p (xs.getD i z) = true) : allTo1 p xs z (i + 1) := fun j hj => by
 by_cases e : j = i
 ·subst e; exact k
 ·exact h j (by omega)
theorem all_at {p : α → Bool} {xs : List α} {z : α} {i : Nat} (h : i < xs.length) (k : p (xs.getD i z) = false) : xs.all p = false := by
 rw [Bool.eq_false_iff]; intro ha
 have := List.all_eq_true.1 ha _ (getD_mem (z := z) h)
 rw [k] at this; cases this
theorem all_of {p : α → Bool} {xs : List α} {z : α} {i : Nat} (h : xs.length ≤ i) (k : allTo1 p xs z i) : xs.all p = true := by
 rw [List.all_eq_true]; intro x hx
 obtain ⟨j, hj, rfl⟩ := List.getElem_of_mem hx
 have := k j (by omega)
 rwa [getD_of_lt hj] at this
def foldTo (f : β → α → β) (b : β) (xs : List α) (i : Nat) : β := (xs.take i).foldl f b
theorem foldTo_zero {f : β → α → β} {b : β} {xs : List α} : foldTo f b xs 0 = b := rfl
theorem foldTo_succ {f : β → α → β} {b : β} {xs : List α} {i : Nat} (z : α) (h : i < xs.length) : foldTo f b xs (i + 1) = f (foldTo f b xs i) (xs.getD i z) := by
 unfold foldTo; rw [take_snoc (z := z) h, List.foldl_append]; rfl
theorem foldTo_all {f : β → α → β} {b : β} {xs : List α} {i : Nat} (h : xs.length ≤ i) : foldTo f b xs i = xs.foldl f b := by unfold foldTo; rw [take_all h]
end
theorem notF' {b : Bool} (h : b = false) : (!b) = true := by rw [h]; rfl
theorem notT' {b : Bool} (h : b = true) : (!b) = false := by rw [h]; rfl
section
variable {α β : Type}
theorem any_at {p : α → Bool} {xs : List α} {z : α} {i : Nat} (h : i < xs.length) (k : p (xs.getD i z) = true) : xs.any p = true := List.any_eq_true.2 ⟨_, getD_mem h, k⟩
theorem any_of {p : α → Bool} {xs : List α} {z : α} {i : Nat} (h : xs.length ≤ i) (k : noneTo p xs z i) : xs.any p = false := by
 rw [Bool.eq_false_iff]; intro ha
 obtain ⟨x, hx, hp⟩ := List.any_eq_true.1 ha
 obtain ⟨j, hj, rfl⟩ := List.getElem_of_mem hx
 have := k j (by omega)
 rw [getD_of_lt hj, hp] at this; cases this
def allN (P : Nat → Bool) : Nat → Bool
 | 0 => true
 | n + 1 => allN P n && P n
theorem allN_succ {P : Nat → Bool} {i : Nat} (h : allN P i = true) (k : P i = true) : allN P (i + 1) = true := by simp [allN, h, k]
theorem allN_iff {P : Nat → Bool} : ∀ {n : Nat}, allN P n = true ↔ ∀ j, j < n → P j = true
 | 0 => by simp [allN]
 | n + 1 => by
  simp only [allN, Bool.and_eq_true, allN_iff (n := n)]
  constructor
  ·rintro ⟨h1, h2⟩ j hj
   by_cases e : j = n
   ·rw [e]; exact h2
   ·exact h1 j (by omega)
  ·intro h; exact ⟨fun j hj => h j (by omega), h n (by omega)⟩
theorem allN_eq {P : Nat → Bool} {i n : Nat} (h : n ≤ i) (h' : i ≤ n) (k : allN P i = true) : allN P n = true := by rw [show n = i by omega]; exact k
theorem allN_at {P : Nat → Bool} {i n : Nat} (h : i < n) (k : P i = false) : allN P n = false := by
 rw [Bool.eq_false_iff]; intro ha
 rw [allN_iff.1 ha i h] at k; cases k
theorem map_snoc {f : α → β} {xs : List α} {i : Nat} {z : α} (h : i < xs.length) : (xs.take (i + 1)).map f = (xs.take i).map f ++ [f (xs.getD i z)] := by rw [take_snoc (z := z) h, List.map_append]; rfl
theorem filter_snoc_t {p : α → Bool} {xs : List α} {i : Nat} {z : α} (h : i < xs.length) (k : p (xs.getD i z) = true) : (xs.take (i + 1)).filter p = (xs.take i).filter p ++ [xs.getD i z] := by rw [take_snoc (z := z) h, List.filter_append, List.filter_cons_of_pos k]; rfl
theorem filter_snoc_f {p : α → Bool} {xs : List α} {i : Nat} {z : α} (h : i < xs.length) (k : p (xs.getD i z) = false) : (xs.take (i + 1)).filter p = (xs.take i).filter p := by rw [take_snoc (z := z) h, List.filter_append, List.filter_cons_of_neg (by rw [k]; decide)]; simp
theorem len_filter_take {p : α → Bool} {xs : List α} (i : Nat) : ((xs.take i).filter p).length ≤ xs.length := Nat.le_trans (List.length_filter_le _ _) (by simp; omega)
theorem len_take_le {xs : List α} (i : Nat) : (xs.take i).length ≤ xs.length := by simp; omega
end
def S_slices_Clone_S_int_int_ : Sum := { fid := 31, dom := [s24], cod := [s24], dp := true, fz := false, pre := fun x => (lenOK (α := Int)) x.1, g := fun x => (((idL (α := Int)) x.1), ()) }
def S_slices_Clone_S_int_int__tab : List (Nat × Sum) := []
theorem S_slices_Clone_S_int_int__ok : FnOK Try.prog 31 S_slices_Clone_S_int_int_ := by
 refine at_enter 8 (fun x => ⟨[(0, aF (.int 3) x.1)], []⟩) Try.func31 rfl (by kernel_rfl) (fun x => rfl) ?_
 rintro w0 Z0 ⟨x0, u⟩ a w
 revert x0
 intro (x0 : (List Int)) hpre hlens h
 replace hpre : (lenOK (α := Int)) x0 := hpre
 have hl1 : List.length x0 ≤ 9223372036854775807 := hlens.1.1
 have hT : TabOK Try.prog S_slices_Clone_S_int_int__tab := .nil
 have hp : List.length x0 ≤ 1073741824 := hpre
 refine wp_seq ?_
 refine at_regq [] { ts := [0, 2], os := [] } [] gamOK hT h (by kernel_rfl) trivial fun a w h => then_normal (wp_seq (wp_seq ?_))
 refine at_regq [] { ts := [0, 2, 4], os := [] } [] gamOK hT h (by kernel_rfl) trivial fun a w h => then_normal ?_
 refine at_nil (List.length x0) h (by kernel_rfl) (fun h1 => ?_) ?_
 ·refine wp_seq ?_
  refine at_regq [] { ts := [0, 2], os := [] } [] gamOK hT h (by kernel_rfl) trivial fun a w h => then_normal (wp_ret (then_ret ?_))
  exact at_return (([] : List Int), ()) [] h (by kernel_rfl) trivial (congrArg (fun z => (z, ())) (show (([] : List Int)) = (idL (α := Int)) x0 from by (show [] = x0; exact (List.eq_nil_of_length_eq_zero h1).symm)))
 ·refine wp_skip (then_normal (wp_seq ?_))
  refine at_regq [{ ids := [1] }, {}, { ids := [2] }] { ts := [2], os := [2] } [(List.length ([] : List Int) + List.length x0) * 8 ≤ 140737488355328] gamOK hT h (by kernel_rfl) ⟨(by first | omega | (simp only [lsA]; omega) | (simp <;> omega)), trivial⟩ fun a w h => then_normal (wp_ret ?_)
  exact at_return ((([] : List Int) ++ x0), ()) [] h (by kernel_rfl) trivial (congrArg (fun z => (z, ())) (show ((([] : List Int) ++ x0)) = (idL (α := Int)) x0 from by (show [] ++ x0 = x0; rfl)))

def S_impl_InRange : Sum := { fid := 20, dom := [(.int 3), (.int 3), (.int 3)], cod := [(.bool 4)], dp := true, fz := false, pre := fun x => True, g := fun x => ((inR x.1 x.2.1 x.2.2.1), ()) }
def S_impl_InRange_tab : List (Nat × Sum) := []
theorem S_impl_InRange_ok : FnOK Try.prog 20 S_impl_InRange := by
 refine at_enter 15 (fun x => ⟨[(0, aI x.1), (1, aI x.2.1), (2, aI x.2.2.1)], []⟩) Try.func20 rfl (by kernel_rfl) (fun x => rfl) ?_
 rintro w0 Z0 ⟨x0, x1, x2, u⟩ a w
 revert x0 x1 x2
 intro (x0 : Int) (x1 : Int) (x2 : Int) hpre hlens h
 have hT : TabOK Try.prog S_impl_InRange_tab := .nil
 refine wp_seq ?_
 refine at_regq [] { ts := [0, 1, 2, 6], os := [] } [] gamOK hT h (by kernel_rfl) trivial fun a w h => then_normal (wp_seq ?_)
 by_cases h1 : x1 ≤ x0
 ·refine at_regq [{}, {}, { hint := some (aB true) }] { ts := [6], os := [] } [(AV.p (.c (.v (.bool (decide (x1 ≤ x0))))) = AV.p (.c (.v (.bool true))))] gamOK hT h (by kernel_rfl) ⟨hint_bool (decide_eq_true h1), trivial⟩ fun a w h => then_normal (wp_ret ?_)
  exact at_return (decide (x0 ≤ x2), ()) [] h (by kernel_rfl) trivial (congrArg (fun z => (z, ())) (show (decide (x0 ≤ x2)) = inR x0 x1 x2 from by (unfold inR; simp [*]; done)))
 ·refine at_regq [{}, {}, { hint := some (aB false) }] { ts := [6], os := [] } [(AV.p (.c (.v (.bool (decide (x1 ≤ x0))))) = AV.p (.c (.v (.bool false))))] gamOK hT h (by kernel_rfl) ⟨hint_bool (decide_eq_false h1), trivial⟩ fun a w h => then_normal (wp_ret ?_)
  exact at_return (false, ()) [] h (by kernel_rfl) trivial (congrArg (fun z => (z, ())) (show (false) = inR x0 x1 x2 from by (unfold inR; simp [*]; done)))

def S_spec_l1In : Sum := { fid := 44, dom := [(.int 3), (.int 3), (.int 3)], cod := [(.bool 4)], dp := true, fz := false, pre := fun x => True, g := fun x => ((inR x.1 x.2.1 x.2.2.1), ()) }
def S_spec_l1In_tab : List (Nat × Sum) := []
theorem S_spec_l1In_ok : FnOK Try.prog 44 S_spec_l1In := by
 refine at_enter 15 (fun x => ⟨[(0, aI x.1), (1, aI x.2.1), (2, aI x.2.2.1)], []⟩) Try.func44 rfl (by kernel_rfl) (fun x => rfl) ?_
 rintro w0 Z0 ⟨x0, x1, x2, u⟩ a w
 revert x0 x1 x2
 intro (x0 : Int) (x1 : Int) (x2 : Int) hpre hlens h
 have hT : TabOK Try.prog S_spec_l1In_tab := .nil
 refine wp_seq ?_
 refine at_regq [] { ts := [0, 1, 2, 6], os := [] } [] gamOK hT h (by kernel_rfl) trivial fun a w h => then_normal (wp_seq ?_)
 by_cases h1 : x0 ≥ x1
 ·refine at_regq [{}, {}, { hint := some (aB true) }] { ts := [6], os := [] } [(AV.p (.c (.v (.bool (decide (x0 ≥ x1))))) = AV.p (.c (.v (.bool true))))] gamOK hT h (by kernel_rfl) ⟨hint_bool (decide_eq_true h1), trivial⟩ fun a w h => then_normal (wp_ret ?_)
  exact at_return (decide (x0 ≤ x2), ()) [] h (by kernel_rfl) trivial (congrArg (fun z => (z, ())) (show (decide (x0 ≤ x2)) = inR x0 x1 x2 from by (unfold inR; first | (simp only [ge_iff_le] at *; simp [*]; done) | (rw [decide_eq_false]; omega))))
 ·refine at_regq [{}, {}, { hint := some (aB false) }] { ts := [6], os := [] } [(AV.p (.c (.v (.bool (decide (x0 ≥ x1))))) = AV.p (.c (.v (.bool false))))] gamOK hT h (by kernel_rfl) ⟨hint_bool (decide_eq_false h1), trivial⟩ fun a w h => then_normal (wp_ret ?_)
  exact at_return (false, ()) [] h (by kernel_rfl) trivial (congrArg (fun z => (z, ())) (show (false) = inR x0 x1 x2 from by (unfold inR; first | (simp only [ge_iff_le] at *; simp [*]; done) | (rw [decide_eq_false]; omega))))

def modF (x0 : Int) (x1 : Int) : Int := (if (inR x1 1 1000000000000) = true then (Int.tmod ((Int.tmod x0 x1) + x1) x1) else 0)
def S_impl_Mod : Sum := { fid := 25, dom := [(.int 3), (.int 3)], cod := [(.int 3)], dp := true, fz := false, pre := fun x => True, g := fun x => ((modF x.1 x.2.1), ()) }
def S_impl_Mod_tab : List (Nat × Sum) := [(20, S_impl_InRange)]
theorem S_impl_Mod_ok : FnOK Try.prog 25 S_impl_Mod := by
 refine at_enter 15 (fun x => ⟨[(0, aI x.1), (1, aI x.2.1)], []⟩) Try.func25 rfl (by kernel_rfl) (fun x => rfl) ?_
 rintro w0 Z0 ⟨x0, x1, u⟩ a w
 revert x0 x1
 intro (x0 : Int) (x1 : Int) hpre hlens h
 have hT : TabOK Try.prog S_impl_Mod_tab := (.cons S_impl_InRange_ok .nil)
 refine wp_seq ?_
 refine at_regq [] { ts := [0, 1, 4], os := [] } [] gamOK hT h (by kernel_rfl) trivial fun a w h => then_normal (wp_seq (wp_seq ?_))
 refine at_regq [] { ts := [0, 1, 4, 7], os := [] } [True] gamOK hT h (by kernel_rfl) ⟨trivial, trivial⟩ fun a w h => then_normal ?_
 refine at_test (!(inR x1 1 1000000000000)) h (by kernel_rfl) (fun h1 => ?_) (fun h1 => ?_)
 ·replace h1 : (inR x1 1 1000000000000) = false := notT h1
  have hvh1 := inR_f h1
  refine wp_seq ?_
  refine at_regq [] { ts := [0, 1, 4], os := [] } [] gamOK hT h (by kernel_rfl) trivial fun a w h => then_normal (wp_ret (then_ret ?_))
  exact at_return (0, ()) [] h (by kernel_rfl) trivial (congrArg (fun z => (z, ())) (show (0) = modF x0 x1 from by first | rfl | (unfold modF; rw [if_neg (neT h1)])))
 ·replace h1 : (inR x1 1 1000000000000) = true := notF h1
  have hvh1 := inR_t h1
  refine wp_skip (then_normal (wp_seq ?_))
  refine at_regq [{}, {}, {}, {}, { nw := true }] { ts := [4], os := [] } [(x1 : Int) ≠ 0, I64 ((Int.tmod x0 x1) + x1), (x1 : Int) ≠ 0] gamOK hT h (by kernel_rfl) ⟨(by first | omega | (have := tmod_bd (p := x0) (q := x1) (by omega); omega)), ⟨by (have hA0 := tmod_v x0 x1; first | omega | (have := tmod_bd (p := x0) (q := x1) (by omega); omega)), by (have hA0 := tmod_v x0 x1; first | omega | (have := tmod_bd (p := x0) (q := x1) (by omega); omega))⟩, (by first | omega | (have := tmod_bd (p := x0) (q := x1) (by omega); omega)), trivial⟩ fun a w h => then_normal (wp_ret ?_)
  exact at_return ((Int.tmod ((Int.tmod x0 x1) + x1) x1), ()) [] h (by kernel_rfl) trivial (congrArg (fun z => (z, ())) (show ((Int.tmod ((Int.tmod x0 x1) + x1) x1)) = modF x0 x1 from by first | rfl | (unfold modF; rw [if_pos h1])))

def isKey (x0 : Int) : Bool := (inR x0 1 2147483646)
def S_impl_IsValidKey : Sum := { fid := 21, dom := [(.int 3)], cod := [(.bool 4)], dp := true, fz := false, pre := fun x => True, g := fun x => ((isKey x.1), ()) }
def S_impl_IsValidKey_tab : List (Nat × Sum) := [(20, S_impl_InRange)]
theorem S_impl_IsValidKey_ok : FnOK Try.prog 21 S_impl_IsValidKey := by
 refine at_enter 5 (fun x => ⟨[(0, aI x.1)], []⟩) Try.func21 rfl (by kernel_rfl) (fun x => rfl) ?_
 rintro w0 Z0 ⟨x0, u⟩ a w
 revert x0
 intro (x0 : Int) hpre hlens h
 have hT : TabOK Try.prog S_impl_IsValidKey_tab := (.cons S_impl_InRange_ok .nil)
 refine wp_seq ?_
 refine at_regq [] { ts := [0, 2], os := [] } [] gamOK hT h (by kernel_rfl) trivial fun a w h => then_normal (wp_seq ?_)
 refine at_regq [] { ts := [2], os := [] } [True] gamOK hT h (by kernel_rfl) ⟨trivial, trivial⟩ fun a w h => then_normal (wp_ret ?_)
 exact at_return ((inR x0 1 2147483646), ()) [] h (by kernel_rfl) trivial (congrArg (fun z => (z, ())) (show ((inR x0 1 2147483646)) = isKey x0 from by rfl))
theorem isKey_t {x : Int} (h : isKey x = true) : 1 ≤ x ∧ x ≤ 2147483646 := inR_t h

def S_spec_IsValidKey : Sum := { fid := 45, dom := [(.int 3)], cod := [(.bool 4)], dp := true, fz := false, pre := fun x => True, g := fun x => ((isKey x.1), ()) }
def S_spec_IsValidKey_tab : List (Nat × Sum) := [(44, S_spec_l1In)]
theorem S_spec_IsValidKey_ok : FnOK Try.prog 45 S_spec_IsValidKey := by
 refine at_enter 5 (fun x => ⟨[(0, aI x.1)], []⟩) Try.func45 rfl (by kernel_rfl) (fun x => rfl) ?_
 rintro w0 Z0 ⟨x0, u⟩ a w
 revert x0
 intro (x0 : Int) hpre hlens h
 have hT : TabOK Try.prog S_spec_IsValidKey_tab := (.cons S_spec_l1In_ok .nil)
 refine wp_seq ?_
 refine at_regq [] { ts := [0, 2], os := [] } [] gamOK hT h (by kernel_rfl) trivial fun a w h => then_normal (wp_seq ?_)
 refine at_regq [] { ts := [2], os := [] } [True] gamOK hT h (by kernel_rfl) ⟨trivial, trivial⟩ fun a w h => then_normal (wp_ret ?_)
 exact at_return ((inR x0 1 2147483646), ()) [] h (by kernel_rfl) trivial (congrArg (fun z => (z, ())) (show ((inR x0 1 2147483646)) = isKey x0 from by first | rfl | (unfold isKey; rfl; done) | (unfold isKey; simp_all)))

theorem flat_take_le {α : Type} (xs : List (List α)) (i : Nat) : (List.flatten (xs.take i)).length ≤ (List.flatten xs).length := by
 have : (List.flatten xs).length = (List.flatten (xs.take i)).length + (List.flatten (xs.drop i)).length := by rw [← List.length_append, ← List.flatten_append, List.take_append_drop]
 omega
theorem flat_snoc {α : Type} {xs : List (List α)} {i : Nat} (h : i < xs.length) : List.flatten (xs.take (i + 1)) = List.flatten (xs.take i) ++ xs.getD i [] := by rw [take_snoc (z := []) h, List.flatten_append]; simp
def pCat (xs : List (List Int)) : Prop := xs.length ≤ 1073741824 ∧ (List.flatten xs).length ≤ 1099511627776
def pKey (_ : Int) (l : List Int) : Prop := l.length ≤ 4294967296
def hashS (d v : Int) : Int := (d * 1000003 + modF v 2147483647 + 13).tmod 2147483647
def hashF (l : List Int) : Int := l.foldl hashS 11
def keyed (k : Int) (l : List Int) : Int := hashF ([k] ++ l ++ [k])
theorem modF_bd (v : Int) : 0 ≤ modF v 2147483647 ∧ modF v 2147483647 < 2147483647 := by
 unfold modF
 rw [if_pos (by decide)]
 have h1 := (tmod_f v 2147483647 (by decide)).1
 have h2 := tmod_f (v.tmod 2147483647 + 2147483647) 2147483647 (by decide)
 omega
theorem hashS_bd {d : Int} (v : Int) (h : 0 ≤ d ∧ d < 2147483647) : 0 ≤ hashS d v ∧ hashS d v < 2147483647 := by
 unfold hashS
 have h1 := modF_bd v
 have h2 := tmod_f (d * 1000003 + modF v 2147483647 + 13) 2147483647 (by decide)
 omega
theorem hashTo_bd (l : List Int) : ∀ (d : Int), (0 ≤ d ∧ d < 2147483647) → 0 ≤ l.foldl hashS d ∧ l.foldl hashS d < 2147483647 := by
 induction l with
 | nil => intro d h; exact h
 | cons v l ih => intro d h; exact ih _ (hashS_bd v h)
theorem hash_bd (l : List Int) (i : Nat) : 0 ≤ foldTo hashS 11 l i ∧ foldTo hashS 11 l i < 2147483647 := hashTo_bd _ _ (by decide)
theorem hashF_bd (l : List Int) : 0 ≤ hashF l ∧ hashF l < 2147483647 := hashTo_bd _ _ (by decide)
theorem keyed_bd (k : Int) (l : List Int) : 0 ≤ keyed k l ∧ keyed k l < 2147483647 := hashF_bd _
def D_slices_Grow_S_int_int__nil := (fun (_ : Unit) (n : Int) => ([] : List Int))
abbrev Q_slices_Grow_S_int_int__nil := (fun (_ : Unit) (n : Int) => 0 ≤ n ∧ n ≤ 1099511627776)
def S_slices_Grow_S_int_int__nil : Sum := { fid := 43, dom := [(.fn0 4294967295), (.int 3)], cod := [s24], dp := true, fz := false, pre := fun x => Q_slices_Grow_S_int_int__nil x.1 x.2.1, g := fun x => ((D_slices_Grow_S_int_int__nil x.1 x.2.1), ()) }
def S_slices_Grow_S_int_int__nil_tab : List (Nat × Sum) := []
theorem S_slices_Grow_S_int_int__nil_ok : FnOK Try.prog 43 S_slices_Grow_S_int_int__nil := by
 refine at_enter 27 (fun x => ⟨[(0, .p (.c (cN))), (1, aI x.2.1)], []⟩) Try.func43 rfl (by kernel_rfl) (fun x => rfl) ?_
 rintro w0 Z0 ⟨x0, x1, u⟩ a w
 revert x0 x1
 intro (x0 : Unit) (x1 : Int) hpre hlens h
 replace hpre : Q_slices_Grow_S_int_int__nil x0 x1 := hpre
 have hT : TabOK Try.prog S_slices_Grow_S_int_int__nil_tab := .nil
 have hp : 0 ≤ x1 ∧ x1 ≤ 1099511627776 := hpre
 refine wp_seq ?_
 refine at_regq [] { ts := [0, 1, 4], os := [] } [] gamOK hT h (by kernel_rfl) trivial fun a w h => then_normal (wp_seq (wp_seq ?_))
 refine at_regq [] { ts := [0, 1, 4, 6], os := [] } [] gamOK hT h (by kernel_rfl) trivial fun a w h => then_normal ?_
 refine at_test (decide (x1 < 0)) h (by kernel_rfl) (fun h1 => ?_) (fun h1 => ?_)
 ·replace h1 : x1 < 0 := of_decide_eq_true h1
  exfalso; omega
 ·replace h1 : ¬ (x1 < 0) := of_decide_eq_false h1
  refine wp_skip (then_normal (wp_seq (wp_seq ?_)))
  refine at_regq [{}, {}, {}, {}, {}, { nw := true }, { nw := true }] { ts := [0, 1, 4], os := [] } [I64 (0 - 0), I64 (x1 - (0 - 0))] gamOK hT h (by kernel_rfl) ⟨⟨by first | omega | (simp only [lsA]; omega) | (simp <;> omega), by first | omega | (simp only [lsA]; omega) | (simp <;> omega)⟩, ⟨by first | omega | (simp only [lsA]; omega) | (simp <;> omega), by first | omega | (simp only [lsA]; omega) | (simp <;> omega)⟩, trivial⟩ fun a w h => then_normal (wp_seq ?_)
  refine at_regq [] { ts := [0, 1, 4, 16], os := [] } [] gamOK hT h (by kernel_rfl) trivial fun a w h => then_normal ?_
  refine at_test (decide (x1 - (0 - 0) > 0)) h (by kernel_rfl) (fun h2 => ?_) (fun h2 => ?_)
  ·replace h2 : x1 - (0 - 0) > 0 := of_decide_eq_true h2
   refine at_regq [{}, {}, {}, {}, {}, { ids := [1] }, {}, {}, { ids := [2] }] { ts := [0, 4], os := [2] } [(0 : Int) ≤ 0 ∧ (0 : Int) ≤ 0 ∧ (0 : Int) ≤ 0, (0 : Int) < x1 - (0 - 0) ∧ (x1 - (0 - 0)) * (8 : Nat) ≤ (140737488355328 : Int), (0 : Int) ≤ 0 ∧ 0 ≤ ((List.length (List.replicate ((x1 - (0 - 0)).toNat) (0 : Int)) : Nat) : Int)] gamOK hT h (by kernel_rfl) ⟨(by refine ⟨?_, ?_, ?_⟩ <;> (first | omega | (simp only [lsA]; omega) | (simp <;> omega))), (by refine ⟨?_, ?_⟩ <;> ((have hA0 := mul_f (x1 - (0 - 0)) (8 : Nat); first | omega | (simp only [lsA]; omega) | (simp <;> omega)))), (by refine ⟨?_, ?_⟩ <;> (first | omega | (simp only [lsA]; omega) | (simp <;> omega))), trivial⟩ fun a w h => then_normal (wp_seq ?_)
   refine at_regq [] { ts := [4], os := [2] } [] gamOK hT h (by kernel_rfl) trivial fun a w h => then_normal (wp_ret ?_)
   exact at_return ((List.take 0 (List.replicate ((x1 - (0 - 0)).toNat) (0 : Int))), ()) [] h (by kernel_rfl) trivial (congrArg (fun z => (z, ())) (show ((List.take 0 (List.replicate ((x1 - (0 - 0)).toNat) (0 : Int)))) = D_slices_Grow_S_int_int__nil x0 x1 from by unfold D_slices_Grow_S_int_int__nil; first | rfl | simp))
  ·replace h2 : ¬ (x1 - (0 - 0) > 0) := of_decide_eq_false h2
   refine wp_skip (then_normal (wp_seq ?_))
   refine at_regq [] { ts := [4], os := [] } [] gamOK hT h (by kernel_rfl) trivial fun a w h => then_normal (wp_ret ?_)
   exact at_return (([] : List Int), ()) [] h (by kernel_rfl) trivial (congrArg (fun z => (z, ())) (show (([] : List Int)) = D_slices_Grow_S_int_int__nil x0 x1 from by unfold D_slices_Grow_S_int_int__nil; first | rfl | simp))

def D_slices_Concat_S_int_int_ := (fun (xs : List (List Int)) => List.flatten xs)
def S_slices_Concat_S_int_int_ : Sum := { fid := 37, dom := [s65], cod := [s24], dp := true, fz := false, pre := fun x => pCat x.1, g := fun x => ((D_slices_Concat_S_int_int_ x.1), ()) }
def S_slices_Concat_S_int_int__tab : List (Nat × Sum) := [(100001, S_slices_Grow_S_int_int__nil)]
theorem S_slices_Concat_S_int_int__ok : FnOK Try.prog 37 S_slices_Concat_S_int_int_ := by
 refine at_enter 36 (fun x => ⟨[(0, aF s24 x.1)], []⟩) Try.func37 rfl (by kernel_rfl) (fun x => rfl) ?_
 rintro w0 Z0 ⟨x0, u⟩ a w
 revert x0
 intro (x0 : (List (List Int))) hpre hlens h
 replace hpre : pCat x0 := hpre
 have hl1 : List.length x0 ≤ 9223372036854775807 := hlens.1.1
 have hT : TabOK Try.prog S_slices_Concat_S_int_int__tab := (.cons S_slices_Grow_S_int_int__nil_ok .nil)
 have hp : List.length x0 ≤ 1073741824 ∧ List.length (List.flatten x0) ≤ 1099511627776 := hpre
 refine wp_seq ?_
 refine at_regq [] { ts := [0, 2], os := [] } [] gamOK hT h (by kernel_rfl) trivial fun a w h => then_normal (wp_seq ?_)
 refine at_regq [] { ts := [0, 2, 3], os := [] } [] gamOK hT h (by kernel_rfl) trivial fun a w h => then_normal (wp_seq (wp_seq ?_))
 refine at_regq [] { ts := [0, 2, 3, 9, 10, 11], os := [] } [] gamOK hT h (by kernel_rfl) trivial fun a w h => then_normal (wp_block ?_)
 replace h := at_out (σ' := ⟨[(0, aF s24 x0), (2, .p (.c (cN))), (3, aI 0), (9, aF s24 x0), (10, aI ((List.length x0 : Nat) : Int)), (11, aI 0)], []⟩) { ts := [0, 2, 3, 9, 10, 11], os := [] } h (by kernel_rfl)
 refine at_loop (fun i : Nat => (⟨[(0, aF s24 x0), (2, .p (.c (cN))), (3, aI ((List.length (List.flatten (List.take i x0)) : Nat) : Int)), (9, aF s24 x0), (10, aI ((List.length x0 : Nat) : Int)), (11, aI ((i : Nat) : Int))], []⟩ : St)) (fun i => i ≤ List.length x0) (fun i => List.length x0 - i) (0) h (st_congr2 (fun (d0 : Int) (d1 : Int) => (⟨[(0, aF s24 x0), (2, .p (.c (cN))), (3, aI d0), (9, aF s24 x0), (10, aI ((List.length x0 : Nat) : Int)), (11, aI d1)], []⟩ : St)) (show (0 : Int) = ((List.length (List.flatten (List.take (0) x0)) : Nat) : Int) from by first | with_reducible rfl | (rfl) | rfl) (show (0 : Int) = (((0) : Nat) : Int) from by first | with_reducible rfl | (rfl) | rfl)) (by omega) ?_
 intro i a w hok0 h
 have hft := flat_take_le x0 i
 refine wp_seq ?_
 refine at_regq [] { ts := [0, 2, 3, 9, 10, 11, 12], os := [] } [] gamOK hT h (by kernel_rfl) trivial fun a w h => then_normal (wp_seq ?_)
 refine at_test (decide (((i : Nat) : Int) < ((List.length x0 : Nat) : Int))) h (by kernel_rfl) (fun h1 => ?_) (fun h1 => ?_)
 ·replace h1 : ((i : Nat) : Int) < ((List.length x0 : Nat) : Int) := of_decide_eq_true h1
  have hfs := flat_snoc (xs := x0) (i := i) (by omega)
  have hft1 := flat_take_le x0 (i + 1)
  rw [hfs, List.length_append] at hft1
  refine wp_skip (then_normal (wp_seq (wp_block (wp_seq ?_))))
  refine at_regq [] { ts := [0, 2, 3, 5, 9, 10, 11], os := [] } [(0 : Int) ≤ ((i : Nat) : Int) ∧ ((i : Nat) : Int) < ((List.length x0 : Nat) : Int)] gamOK hT h (by kernel_rfl) ⟨(by refine ⟨?_, ?_⟩ <;> (first | omega | (simp only [lsA]; omega) | (simp <;> omega))), trivial⟩ fun a w h => then_normal (wp_seq ?_)
  refine at_regq [{}, {}, {}, { nw := true }] { ts := [0, 2, 3, 9, 10, 11], os := [] } [I64 (((List.length (List.flatten (List.take i x0)) : Nat) : Int) + ((List.length (x0.getD i []) : Nat) : Int))] gamOK hT h (by kernel_rfl) ⟨⟨by first | omega | (simp only [lsA]; omega) | (simp <;> omega), by first | omega | (simp only [lsA]; omega) | (simp <;> omega)⟩, trivial⟩ fun a w h => then_normal (wp_seq ?_)
  refine at_regq [] { ts := [0, 2, 3, 9, 10, 11, 20], os := [] } [] gamOK hT h (by kernel_rfl) trivial fun a w h => then_normal ?_
  refine at_test (decide (((List.length (List.flatten (List.take i x0)) : Nat) : Int) + ((List.length (x0.getD i []) : Nat) : Int) < 0)) h (by kernel_rfl) (fun h2 => ?_) (fun h2 => ?_)
  ·replace h2 : ((List.length (List.flatten (List.take i x0)) : Nat) : Int) + ((List.length (x0.getD i []) : Nat) : Int) < 0 := of_decide_eq_true h2
   exfalso; omega
  ·replace h2 : ¬ (((List.length (List.flatten (List.take i x0)) : Nat) : Int) + ((List.length (x0.getD i []) : Nat) : Int) < 0) := of_decide_eq_false h2
   refine wp_skip (in_normal (then_normal ?_))
   refine at_regq [{ nw := true }] { ts := [0, 2, 3, 9, 10, 11], os := [] } [I64 (((i : Nat) : Int) + 1)] gamOK hT h (by kernel_rfl) ⟨⟨by first | omega | (simp only [lsA]; omega) | (simp <;> omega), by first | omega | (simp only [lsA]; omega) | (simp <;> omega)⟩, trivial⟩ fun a w h => ?_
   replace h := at_out (σ' := ⟨[(0, aF s24 x0), (2, .p (.c (cN))), (3, aI (((List.length (List.flatten (List.take i x0)) : Nat) : Int) + ((List.length (x0.getD i []) : Nat) : Int))), (9, aF s24 x0), (10, aI ((List.length x0 : Nat) : Int)), (11, aI (((i : Nat) : Int) + 1))], []⟩) { ts := [0, 2, 3, 9, 10, 11], os := [] } h (by kernel_rfl)
   exact ⟨i + 1, at_eq h (st_congr2 (fun (d0 : Int) (d1 : Int) => (⟨[(0, aF s24 x0), (2, .p (.c (cN))), (3, aI d0), (9, aF s24 x0), (10, aI ((List.length x0 : Nat) : Int)), (11, aI d1)], []⟩ : St)) (show (((List.length (List.flatten (List.take i x0)) : Nat) : Int) + ((List.length (x0.getD i []) : Nat) : Int) : Int) = ((List.length (List.flatten (List.take (i + 1) x0)) : Nat) : Int) from by first | with_reducible rfl | (rw [flat_snoc (by omega), List.length_append]; omega) | rfl) (show (((i : Nat) : Int) + 1 : Int) = (((i + 1) : Nat) : Int) from by first | with_reducible rfl | (omega) | rfl)), (by omega), (by omega)⟩
 ·replace h1 : ¬ (((i : Nat) : Int) < ((List.length x0 : Nat) : Int)) := of_decide_eq_false h1
  refine wp_exit (then_exit ?_)
  replace h := at_out (σ' := ⟨[(0, aF s24 x0), (2, .p (.c (cN))), (3, aI ((List.length (List.flatten (List.take i x0)) : Nat) : Int))], []⟩) { ts := [0, 2, 3], os := [] } h (by kernel_rfl)
  replace h := at_eq (σ' := ⟨[(0, aF s24 x0), (2, .p (.c (cN))), (3, aI ((List.length (List.flatten x0) : Nat) : Int))], []⟩) h (st_congr1 (fun (d0 : Int) => (⟨[(0, aF s24 x0), (2, .p (.c (cN))), (3, aI d0)], []⟩ : St)) (show (((List.length (List.flatten (List.take i x0)) : Nat) : Int) : Int) = ((List.length (List.flatten x0) : Nat) : Int) from by first | with_reducible rfl | (rw [take_all (by omega)]) | rfl))
  refine then_exit (in_hit (then_normal (wp_seq ?_)))
  refine at_regq [{}, { ids := [1], key := some 100001 }] { ts := [0, 2, 6], os := [1] } [Q_slices_Grow_S_int_int__nil () ((List.length (List.flatten x0) : Nat) : Int)] gamOK hT h (by kernel_rfl) ⟨(by (show (0 : Int) ≤ _ ∧ _ ≤ (1099511627776 : Int); omega)), trivial⟩ fun a w h => then_normal (wp_seq (wp_seq ?_))
  refine at_regq [] { ts := [2, 6, 25, 26, 27], os := [1] } [] gamOK hT h (by kernel_rfl) trivial fun a w h => then_normal (wp_block ?_)
  replace h := at_out (σ' := ⟨[(2, .p (.c (cN))), (6, aS 1), (25, aF s24 x0), (26, aI ((List.length x0 : Nat) : Int)), (27, aI 0)], [(1, oR (.int 3) (D_slices_Grow_S_int_int__nil () ((List.length (List.flatten x0) : Nat) : Int)))]⟩) { ts := [2, 6, 25, 26, 27], os := [1] } h (by kernel_rfl)
  refine at_loop (fun i : Nat => (⟨[(2, .p (.c (cN))), (6, aS 1), (25, aF s24 x0), (26, aI ((List.length x0 : Nat) : Int)), (27, aI ((i : Nat) : Int))], [(1, oR (.int 3) (List.flatten (List.take i x0)))]⟩ : St)) (fun i => i ≤ List.length x0) (fun i => List.length x0 - i) (0) h (st_congr2 (fun (d0 : List Int) (d1 : Int) => (⟨[(2, .p (.c (cN))), (6, aS 1), (25, aF s24 x0), (26, aI ((List.length x0 : Nat) : Int)), (27, aI d1)], [(1, oR (.int 3) d0)]⟩ : St)) (show ((D_slices_Grow_S_int_int__nil () ((List.length (List.flatten x0) : Nat) : Int)) : List Int) = (List.flatten (List.take (0) x0)) from by first | with_reducible rfl | (rfl) | rfl) (show (0 : Int) = (((0) : Nat) : Int) from by first | with_reducible rfl | (rfl) | rfl)) (by omega) ?_
  intro i a w hok1 h
  have hft := flat_take_le x0 i
  refine wp_seq ?_
  refine at_regq [] { ts := [2, 6, 25, 26, 27, 28], os := [1] } [] gamOK hT h (by kernel_rfl) trivial fun a w h => then_normal (wp_seq ?_)
  refine at_test (decide (((i : Nat) : Int) < ((List.length x0 : Nat) : Int))) h (by kernel_rfl) (fun h3 => ?_) (fun h3 => ?_)
  ·replace h3 : ((i : Nat) : Int) < ((List.length x0 : Nat) : Int) := of_decide_eq_true h3
   have hfs := flat_snoc (xs := x0) (i := i) (by omega)
   have hft1 := flat_take_le x0 (i + 1)
   rw [hfs, List.length_append] at hft1
   refine wp_skip (then_normal (wp_seq (wp_block (wp_seq ?_))))
   refine at_regq [] { ts := [2, 6, 8, 25, 26, 27], os := [1] } [(0 : Int) ≤ ((i : Nat) : Int) ∧ ((i : Nat) : Int) < ((List.length x0 : Nat) : Int)] gamOK hT h (by kernel_rfl) ⟨(by refine ⟨?_, ?_⟩ <;> (first | omega | (simp only [lsA]; omega) | (simp <;> omega))), trivial⟩ fun a w h => then_normal ?_
   refine at_regq [{}, {}, { ids := [2] }] { ts := [2, 6, 25, 26, 27], os := [2] } [(List.length (List.flatten (List.take i x0)) + List.length (x0.getD i [])) * 8 ≤ 140737488355328] gamOK hT h (by kernel_rfl) ⟨(by first | omega | (simp only [lsA]; omega) | (simp <;> omega)), trivial⟩ fun a w h => in_normal (then_normal ?_)
   refine at_regq [{ nw := true }] { ts := [2, 6, 25, 26, 27], os := [2] } [I64 (((i : Nat) : Int) + 1)] gamOK hT h (by kernel_rfl) ⟨⟨by first | omega | (simp only [lsA]; omega) | (simp <;> omega), by first | omega | (simp only [lsA]; omega) | (simp <;> omega)⟩, trivial⟩ fun a w h => ?_
   replace h := at_out (σ' := ⟨[(2, .p (.c (cN))), (6, aS 1), (25, aF s24 x0), (26, aI ((List.length x0 : Nat) : Int)), (27, aI (((i : Nat) : Int) + 1))], [(1, oR (.int 3) ((List.flatten (List.take i x0)) ++ (x0.getD i [])))]⟩) { ts := [2, 6, 25, 26, 27], os := [2], rn := [(2, 1)] } h (by kernel_rfl)
   exact ⟨i + 1, at_eq h (st_congr2 (fun (d0 : List Int) (d1 : Int) => (⟨[(2, .p (.c (cN))), (6, aS 1), (25, aF s24 x0), (26, aI ((List.length x0 : Nat) : Int)), (27, aI d1)], [(1, oR (.int 3) d0)]⟩ : St)) (show (((List.flatten (List.take i x0)) ++ (x0.getD i [])) : List Int) = (List.flatten (List.take (i + 1) x0)) from by first | with_reducible rfl | (rw [flat_snoc (by omega)]) | rfl) (show (((i : Nat) : Int) + 1 : Int) = (((i + 1) : Nat) : Int) from by first | with_reducible rfl | (omega) | rfl)), (by omega), (by omega)⟩
  ·replace h3 : ¬ (((i : Nat) : Int) < ((List.length x0 : Nat) : Int)) := of_decide_eq_false h3
   refine wp_exit (then_exit ?_)
   replace h := at_out (σ' := ⟨[(2, .p (.c (cN))), (6, aS 1)], [(1, oR (.int 3) (List.flatten (List.take i x0)))]⟩) { ts := [2, 6], os := [1] } h (by kernel_rfl)
   replace h := at_eq (σ' := ⟨[(2, .p (.c (cN))), (6, aS 1)], [(1, oR (.int 3) (List.flatten x0))]⟩) h (st_congr1 (fun (d0 : List Int) => (⟨[(2, .p (.c (cN))), (6, aS 1)], [(1, oR (.int 3) d0)]⟩ : St)) (show ((List.flatten (List.take i x0)) : List Int) = (List.flatten x0) from by first | with_reducible rfl | (rw [take_all (by omega)]) | rfl))
   refine then_exit (in_hit (then_normal (wp_seq ?_)))
   refine at_regq [] { ts := [2], os := [1] } [] gamOK hT h (by kernel_rfl) trivial fun a w h => then_normal (wp_ret ?_)
   exact at_return ((List.flatten x0), ()) [] h (by kernel_rfl) trivial (congrArg (fun z => (z, ())) (show ((List.flatten x0)) = D_slices_Concat_S_int_int_ x0 from by unfold D_slices_Concat_S_int_int_; rfl))

def S_impl_Hash : Sum := { fid := 36, dom := [s24], cod := [(.int 3)], dp := true, fz := false, pre := fun x => True, g := fun x => ((hashF x.1), ()) }
def S_impl_Hash_tab : List (Nat × Sum) := [(25, S_impl_Mod)]
theorem S_impl_Hash_ok : FnOK Try.prog 36 S_impl_Hash := by
 refine at_enter 21 (fun x => ⟨[(0, aF (.int 3) x.1)], []⟩) Try.func36 rfl (by kernel_rfl) (fun x => rfl) ?_
 rintro w0 Z0 ⟨x0, u⟩ a w
 revert x0
 intro (x0 : (List Int)) hpre hlens h
 have hl1 : List.length x0 ≤ 9223372036854775807 := hlens.1.1
 have hT : TabOK Try.prog S_impl_Hash_tab := (.cons S_impl_Mod_ok .nil)
 refine wp_seq ?_
 refine at_regq [] { ts := [0, 2], os := [] } [] gamOK hT h (by kernel_rfl) trivial fun a w h => then_normal (wp_seq ?_)
 refine at_regq [] { ts := [0, 2, 3], os := [] } [] gamOK hT h (by kernel_rfl) trivial fun a w h => then_normal (wp_seq (wp_seq ?_))
 refine at_regq [] { ts := [2, 3, 6, 7, 8], os := [] } [] gamOK hT h (by kernel_rfl) trivial fun a w h => then_normal (wp_block ?_)
 replace h := at_out (σ' := ⟨[(2, aI 0), (3, aI 11), (6, aF (.int 3) x0), (7, aI ((List.length x0 : Nat) : Int)), (8, aI 0)], []⟩) { ts := [2, 3, 6, 7, 8], os := [] } h (by kernel_rfl)
 refine at_loop (fun i : Nat => (⟨[(2, aI 0), (3, aI (foldTo hashS 11 x0 i)), (6, aF (.int 3) x0), (7, aI ((List.length x0 : Nat) : Int)), (8, aI ((i : Nat) : Int))], []⟩ : St)) (fun i => i ≤ List.length x0) (fun i => List.length x0 - i) (0) h (st_congr2 (fun (d0 : Int) (d1 : Int) => (⟨[(2, aI 0), (3, aI d0), (6, aF (.int 3) x0), (7, aI ((List.length x0 : Nat) : Int)), (8, aI d1)], []⟩ : St)) (show (11 : Int) = (foldTo hashS 11 x0 (0)) from by first | with_reducible rfl | (first | rfl | simp) | rfl) (show (0 : Int) = (((0) : Nat) : Int) from by first | with_reducible rfl | (first | rfl | simp) | rfl)) (by omega) ?_
 intro i a w hok0 h
 have hbd := hash_bd x0 i
 refine wp_seq ?_
 refine at_regq [] { ts := [2, 3, 6, 7, 8, 9], os := [] } [] gamOK hT h (by kernel_rfl) trivial fun a w h => then_normal (wp_seq ?_)
 refine at_test (decide (((i : Nat) : Int) < ((List.length x0 : Nat) : Int))) h (by kernel_rfl) (fun h1 => ?_) (fun h1 => ?_)
 ·replace h1 : ((i : Nat) : Int) < ((List.length x0 : Nat) : Int) := of_decide_eq_true h1
  have hmb := modF_bd (x0.getD i 0)
  refine wp_skip (then_normal (wp_seq (wp_block (wp_seq ?_))))
  refine at_regq [] { ts := [2, 3, 5, 6, 7, 8], os := [] } [(0 : Int) ≤ ((i : Nat) : Int) ∧ ((i : Nat) : Int) < ((List.length x0 : Nat) : Int)] gamOK hT h (by kernel_rfl) ⟨(by refine ⟨?_, ?_⟩ <;> (first | omega | (simp only [lsA]; omega) | (simp <;> omega))), trivial⟩ fun a w h => then_normal ?_
  refine at_regq [{}, { nw := true }, {}, {}, { nw := true }, { nw := true }] { ts := [2, 3, 6, 7, 8], os := [] } [I64 ((foldTo hashS 11 x0 i) * 1000003), True, I64 (((foldTo hashS 11 x0 i) * 1000003) + (modF (x0.getD i 0) 2147483647)), I64 ((((foldTo hashS 11 x0 i) * 1000003) + (modF (x0.getD i 0) 2147483647)) + 13), (2147483647 : Int) ≠ 0] gamOK hT h (by kernel_rfl) ⟨⟨by first | omega | (simp only [lsA]; omega) | (simp <;> omega), by first | omega | (simp only [lsA]; omega) | (simp <;> omega)⟩, trivial, ⟨by first | omega | (simp only [lsA]; omega) | (simp <;> omega), by first | omega | (simp only [lsA]; omega) | (simp <;> omega)⟩, ⟨by first | omega | (simp only [lsA]; omega) | (simp <;> omega), by first | omega | (simp only [lsA]; omega) | (simp <;> omega)⟩, (by first | omega | (simp only [lsA]; omega) | (simp <;> omega)), trivial⟩ fun a w h => in_normal (then_normal ?_)
  refine at_regq [{ nw := true }] { ts := [2, 3, 6, 7, 8], os := [] } [I64 (((i : Nat) : Int) + 1)] gamOK hT h (by kernel_rfl) ⟨⟨by first | omega | (simp only [lsA]; omega) | (simp <;> omega), by first | omega | (simp only [lsA]; omega) | (simp <;> omega)⟩, trivial⟩ fun a w h => ?_
  replace h := at_out (σ' := ⟨[(2, aI 0), (3, aI (Int.tmod ((((foldTo hashS 11 x0 i) * 1000003) + (modF (x0.getD i 0) 2147483647)) + 13) 2147483647)), (6, aF (.int 3) x0), (7, aI ((List.length x0 : Nat) : Int)), (8, aI (((i : Nat) : Int) + 1))], []⟩) { ts := [2, 3, 6, 7, 8], os := [] } h (by kernel_rfl)
  exact ⟨i + 1, at_eq h (st_congr2 (fun (d0 : Int) (d1 : Int) => (⟨[(2, aI 0), (3, aI d0), (6, aF (.int 3) x0), (7, aI ((List.length x0 : Nat) : Int)), (8, aI d1)], []⟩ : St)) (show ((Int.tmod ((((foldTo hashS 11 x0 i) * 1000003) + (modF (x0.getD i 0) 2147483647)) + 13) 2147483647) : Int) = (foldTo hashS 11 x0 (i + 1)) from by first | with_reducible rfl | (rw [foldTo_succ 0 (by omega)]; first | rfl | (simp_all; done)) | rfl) (show (((i : Nat) : Int) + 1 : Int) = (((i + 1) : Nat) : Int) from by first | with_reducible rfl | (omega) | rfl)), (by omega), (by omega)⟩
 ·replace h1 : ¬ (((i : Nat) : Int) < ((List.length x0 : Nat) : Int)) := of_decide_eq_false h1
  refine wp_exit (then_exit ?_)
  replace h := at_out (σ' := ⟨[(2, aI 0), (3, aI (foldTo hashS 11 x0 i))], []⟩) { ts := [2, 3], os := [] } h (by kernel_rfl)
  replace h := at_eq (σ' := ⟨[(2, aI 0), (3, aI (List.foldl hashS 11 x0))], []⟩) h (st_congr1 (fun (d0 : Int) => (⟨[(2, aI 0), (3, aI d0)], []⟩ : St)) (show ((foldTo hashS 11 x0 i) : Int) = (List.foldl hashS 11 x0) from by first | with_reducible rfl | (rw [foldTo_all (by omega)]) | rfl))
  refine then_exit (in_hit (then_normal (wp_seq ?_)))
  refine at_regq [] { ts := [2], os := [] } [] gamOK hT h (by kernel_rfl) trivial fun a w h => then_normal (wp_ret ?_)
  exact at_return ((List.foldl hashS 11 x0), ()) [] h (by kernel_rfl) trivial (congrArg (fun z => (z, ())) (show ((List.foldl hashS 11 x0)) = hashF x0 from by rfl))

def S_impl_KeyedHash : Sum := { fid := 24, dom := [(.int 3), s24], cod := [(.int 3)], dp := true, fz := false, pre := fun x => pKey x.1 x.2.1, g := fun x => ((keyed x.1 x.2.1), ()) }
def S_impl_KeyedHash_tab : List (Nat × Sum) := [(37, S_slices_Concat_S_int_int_), (36, S_impl_Hash)]
theorem S_impl_KeyedHash_ok : FnOK Try.prog 24 S_impl_KeyedHash := by
 refine at_enter 13 (fun x => ⟨[(0, aI x.1), (1, aF (.int 3) x.2.1)], []⟩) Try.func24 rfl (by kernel_rfl) (fun x => rfl) ?_
 rintro w0 Z0 ⟨x0, x1, u⟩ a w
 revert x0 x1
 intro (x0 : Int) (x1 : (List Int)) hpre hlens h
 replace hpre : pKey x0 x1 := hpre
 have hl1 : List.length x1 ≤ 9223372036854775807 := hlens.2.1.1
 have hT : TabOK Try.prog S_impl_KeyedHash_tab := (.cons S_slices_Concat_S_int_int__ok (.cons S_impl_Hash_ok .nil))
 have hp : List.length x1 ≤ 4294967296 := hpre
 refine wp_seq ?_
 refine at_regq [] { ts := [0, 1, 4], os := [] } [] gamOK hT h (by kernel_rfl) trivial fun a w h => then_normal (wp_seq ?_)
 refine at_regq [{}, { ids := [1], frz := true }, {}, {}, { ids := [2], frz := true }, { ids := [3], dp := false }, { ids := [4] }] { ts := [4], os := [] } [pCat ([[x0], x1, [x0]]), True] gamOK hT h (by kernel_rfl) ⟨(by (show _ ∧ _; refine ⟨by simp, ?_⟩; simp; omega)), trivial, trivial⟩ fun a w h => then_normal (wp_ret ?_)
 exact at_return ((hashF (D_slices_Concat_S_int_int_ ([[x0], x1, [x0]]))), ()) [] h (by kernel_rfl) trivial (congrArg (fun z => (z, ())) (show ((hashF (D_slices_Concat_S_int_int_ ([[x0], x1, [x0]])))) = keyed x0 x1 from by (unfold keyed; simp [D_slices_Concat_S_int_int_])))

def D_impl_orOne (x0 : Int) : Int := if x0 < 1 then 1 else x0
def S_impl_orOne : Sum := { fid := 26, dom := [(.int 3)], cod := [(.int 3)], dp := true, fz := false, pre := fun x => True, g := fun x => ((D_impl_orOne x.1), ()) }
def S_impl_orOne_tab : List (Nat × Sum) := []
theorem S_impl_orOne_ok : FnOK Try.prog 26 S_impl_orOne := by
 refine at_enter 5 (fun x => ⟨[(0, aI x.1)], []⟩) Try.func26 rfl (by kernel_rfl) (fun x => rfl) ?_
 rintro w0 Z0 ⟨x0, u⟩ a w
 revert x0
 intro (x0 : Int) hpre hlens h
 have hT : TabOK Try.prog S_impl_orOne_tab := .nil
 refine wp_seq ?_
 refine at_regq [] { ts := [0, 2], os := [] } [] gamOK hT h (by kernel_rfl) trivial fun a w h => then_normal (wp_seq ?_)
 refine at_regq [] { ts := [2], os := [] } [] gamOK hT h (by kernel_rfl) trivial fun a w h => then_normal (wp_ret ?_)
 exact at_return (if x0 < 1 then 1 else x0, ()) [] h (by kernel_rfl) trivial (congrArg (fun z => (z, ())) (show (if x0 < 1 then 1 else x0) = D_impl_orOne x0 from by rfl))

def bsF (p : Nat → Bool) (i j : Nat) : Nat := if h : i < j then (if p ((i + j) / 2) = true then bsF p ((i + j) / 2 + 1) j else bsF p i ((i + j) / 2)) else i
termination_by j - i
theorem bsF_up {p : Nat → Bool} {i j : Nat} (h : i < j) (hp : p ((i + j) / 2) = true) : bsF p i j = bsF p ((i + j) / 2 + 1) j := by rw [bsF, dif_pos h, if_pos hp]
theorem bsF_down {p : Nat → Bool} {i j : Nat} (h : i < j) (hp : p ((i + j) / 2) = false) : bsF p i j = bsF p i ((i + j) / 2) := by rw [bsF, dif_pos h, if_neg (by rw [hp]; decide)]
theorem bsF_end {p : Nat → Bool} {i j : Nat} (h : ¬ i < j) : bsF p i j = i := by rw [bsF, dif_neg h]
theorem bsF_bd (p : Nat → Bool) : ∀ (d i j : Nat), j - i ≤ d → i ≤ j → i ≤ bsF p i j ∧ bsF p i j ≤ j
 | 0, i, j, h, hij => by rw [bsF_end (by omega)]; omega
 | d + 1, i, j, h, hij => by
  by_cases hl : i < j
  ·cases hp : p ((i + j) / 2) with
   | true => rw [bsF_up hl hp]; have := bsF_bd p d ((i + j) / 2 + 1) j (by omega) (by omega); omega
   | false => rw [bsF_down hl hp]; have := bsF_bd p d i ((i + j) / 2) (by omega) (by omega); omega
  ·rw [bsF_end hl]; omega
theorem bsF_first {p : Nat → Bool} {n : Nat} (hm : ∀ a b, a ≤ b → b < n → p b = true → p a = true) : ∀ (d i j : Nat), j - i ≤ d → i ≤ j → j ≤ n → (∀ a, a < i → p a = true) → (∀ a, j ≤ a → a < n → p a = false) →
  (∀ a, a < bsF p i j → p a = true) ∧ ∀ a, bsF p i j ≤ a → a < n → p a = false
 | 0, i, j, h, hij, hjn, h1, h2 => by rw [bsF_end (by omega)]; exact ⟨h1, fun a ha hn => h2 a (by omega) hn⟩
 | d + 1, i, j, h, hij, hjn, h1, h2 => by
  by_cases hl : i < j
  ·cases hp : p ((i + j) / 2) with
   | true => rw [bsF_up hl hp]; exact bsF_first hm d _ j (by omega) (by omega) hjn (fun a ha => hm a _ (by omega) (by omega) hp) h2
   | false =>
    rw [bsF_down hl hp]
    refine bsF_first hm d i _ (by omega) (by omega) (by omega) h1 fun a ha hn => ?_
    cases hpa : p a with
    | false => rfl
    | true => rw [hm _ a ha hn hpa] at hp; cases hp
  ·rw [bsF_end hl]; exact ⟨h1, fun a ha hn => h2 a (by omega) hn⟩
theorem half_eq {i j : Nat} (h : i + j ≤ 2147483648) : IntKind.i64.wrap (Int.fdiv (IntKind.u64.wrap ((i : Int) + (j : Int))) (2 ^ (min (1 : Int).toNat (IntKind.u64).bits))) = (((i + j) / 2 : Nat) : Int) := by
 have e1 : IntKind.u64.wrap ((i : Int) + (j : Int)) = ((i + j : Nat) : Int) := by
  simp only [IntKind.wrap, IntKind.bits, IntKind.signed]
  simp
  omega
 have e2 : (2 : Int) ^ (min (1 : Int).toNat (IntKind.u64).bits) = 2 := by decide
 rw [e1, e2, Int.fdiv_eq_ediv_of_nonneg _ (by omega), IntKind.wrap_i64]
 omega
def ltAt (xs : List Int) (v : Int) (k : Nat) : Bool := decide (xs.getD k 0 < v)
def twL {α : Type} (p : α → Bool) (xs : List α) : Nat := (xs.takeWhile p).length
theorem twL_eq {α : Type} {p : α → Bool} {z : α} : ∀ {xs : List α} {k : Nat}, k ≤ xs.length → allTo1 p xs z k → (k < xs.length → p (xs.getD k z) = false) → twL p xs = k
 | [], k, h, _, _ => by simp at h; subst h; rfl
 | x :: l, 0, _, _, h => by
  have h0 : p x = false := h (by simp)
  simp [twL, List.takeWhile, h0]
 | x :: l, k + 1, h, ha, he => by
  have h0 : p x = true := ha 0 (by omega)
  have ih := twL_eq (p := p) (z := z) (xs := l) (k := k) (by simpa using h) (fun j hj => by have := ha (j + 1) (by omega); simpa using this) (fun hk => by have := he (by simpa using hk); simpa using this)
  unfold twL at ih ⊢
  rw [List.takeWhile_cons_of_pos h0, List.length_cons, ih]
theorem twL_le {α : Type} (p : α → Bool) (xs : List α) : twL p xs ≤ xs.length := by
 unfold twL
 exact (List.takeWhile_sublist p).length_le
def grpP (xs : List Int) (j : Nat) : Bool := (decide (0 ≤ xs.getD j 0) && decide (xs.getD j 0 ≤ 7)) && (decide (j = 0) || decide (xs.getD (j - 1) 0 < xs.getD j 0))
theorem grp_t {xs : List Int} {i : Nat} (h1 : 0 ≤ xs.getD i 0 ∧ xs.getD i 0 ≤ 7) (h2 : i = 0 ∨ xs.getD (((i : Nat) : Int) - 1).toNat 0 < xs.getD i 0) : grpP xs i = true := by
 have e : (((i : Nat) : Int) - 1).toNat = i - 1 := by omega
 rw [e] at h2
 unfold grpP
 rw [decide_eq_true h1.1, decide_eq_true h1.2]
 rcases h2 with h2 | h2
 ·rw [decide_eq_true h2]; rfl
 ·rw [decide_eq_true h2]; simp
theorem grp_f {xs : List Int} {i : Nat} (h : (xs.getD i 0 < 0 ∨ 7 < xs.getD i 0) ∨ (0 < i ∧ xs.getD i 0 ≤ xs.getD (((i : Nat) : Int) - 1).toNat 0)) : grpP xs i = false := by
 have e : (((i : Nat) : Int) - 1).toNat = i - 1 := by omega
 rw [e] at h
 unfold grpP
 rw [Bool.and_eq_false_iff, Bool.and_eq_false_iff, Bool.or_eq_false_iff]
 simp only [decide_eq_false_iff_not]
 omega
theorem grp_sorted {xs : List Int} (h : allN (grpP xs) xs.length = true) : ∀ a b, a < b → b < xs.length → xs.getD a 0 < xs.getD b 0 := by
 intro a b hab hb
 obtain ⟨d, rfl⟩ : ∃ d, b = a + 1 + d := ⟨b - a - 1, by omega⟩
 induction d with
 | zero =>
  have := allN_iff.1 h (a + 1) hb
  unfold grpP at this
  simp at this
  simpa using this.2
 | succ d ih =>
  have h1 := ih (by omega) (by omega)
  have := allN_iff.1 h (a + 1 + (d + 1)) hb
  unfold grpP at this
  simp only [Bool.and_eq_true, Bool.or_eq_true, decide_eq_true_iff] at this
  have e : a + 1 + (d + 1) - 1 = a + 1 + d := by omega
  rw [e] at this
  omega
theorem grp_len {xs : List Int} (h : allN (grpP xs) xs.length = true) : xs.length ≤ 8 := by
 have hs := grp_sorted h
 have h0 : ∀ i, i < xs.length → (i : Int) ≤ xs.getD i 0 := by
  intro i
  induction i with
  | zero =>
   intro hi
   have := allN_iff.1 h 0 hi
   unfold grpP at this
   simp only [Bool.and_eq_true, decide_eq_true_iff] at this
   omega
  | succ i ih => intro hi; have := ih (by omega); have := hs i (i + 1) (by omega) hi; omega
 rcases Nat.lt_or_ge 8 xs.length with h8 | h8
 ·have h1 := h0 8 h8
  have := allN_iff.1 h 8 h8
  unfold grpP at this
  simp only [Bool.and_eq_true, decide_eq_true_iff] at this
  omega
 ·exact h8
theorem bs_tw {xs : List Int} {v : Int} (h : allN (grpP xs) xs.length = true) : bsF (ltAt xs v) 0 xs.length = twL (fun e => decide (e < v)) xs := by
 have hs := grp_sorted h
 have hm : ∀ a b, a ≤ b → b < xs.length → ltAt xs v b = true → ltAt xs v a = true := fun a b hab hb hp => by
  unfold ltAt at hp ⊢
  rw [decide_eq_true_iff] at hp ⊢
  by_cases e : a = b
  ·rw [e]; exact hp
  ·have := hs a b (by omega) hb; omega
 obtain ⟨h1, h2⟩ := bsF_first hm xs.length 0 xs.length (by omega) (by omega) (Nat.le_refl _) (fun a ha => by omega) (fun a ha hn => by omega)
 have hb := bsF_bd (ltAt xs v) xs.length 0 xs.length (by omega) (by omega)
 refine (twL_eq (z := 0) hb.2 (fun j hj => h1 j hj) fun hk => h2 _ (Nat.le_refl _) hk).symm
def D_slices_isNaN_int_ := (fun (_ : Int) => false)
def S_slices_isNaN_int_ : Sum := { fid := 33, dom := [(.int 3)], cod := [(.bool 4)], dp := true, fz := false, pre := fun x => True, g := fun x => ((D_slices_isNaN_int_ x.1), ()) }
def S_slices_isNaN_int__tab : List (Nat × Sum) := []
theorem S_slices_isNaN_int__ok : FnOK Try.prog 33 S_slices_isNaN_int_ := by
 refine at_enter 6 (fun x => ⟨[(0, aI x.1)], []⟩) Try.func33 rfl (by kernel_rfl) (fun x => rfl) ?_
 rintro w0 Z0 ⟨x0, u⟩ a w
 revert x0
 intro (x0 : Int) hpre hlens h
 have hT : TabOK Try.prog S_slices_isNaN_int__tab := .nil
 refine wp_seq ?_
 refine at_regq [] { ts := [0, 2], os := [] } [] gamOK hT h (by kernel_rfl) trivial fun a w h => then_normal (wp_seq ?_)
 refine at_regq [] { ts := [2], os := [] } [] gamOK hT h (by kernel_rfl) trivial fun a w h => then_normal (wp_ret ?_)
 exact at_return (!decide (x0 = x0), ()) [] h (by kernel_rfl) trivial (congrArg (fun z => (z, ())) (show (!decide (x0 = x0)) = D_slices_isNaN_int_ x0 from by unfold D_slices_isNaN_int_; simp))

def D_cmp_isNaN_int_ := (fun (_ : Int) => false)
def S_cmp_isNaN_int_ : Sum := { fid := 41, dom := [(.int 3)], cod := [(.bool 4)], dp := true, fz := false, pre := fun x => True, g := fun x => ((D_cmp_isNaN_int_ x.1), ()) }
def S_cmp_isNaN_int__tab : List (Nat × Sum) := []
theorem S_cmp_isNaN_int__ok : FnOK Try.prog 41 S_cmp_isNaN_int_ := by
 refine at_enter 6 (fun x => ⟨[(0, aI x.1)], []⟩) Try.func41 rfl (by kernel_rfl) (fun x => rfl) ?_
 rintro w0 Z0 ⟨x0, u⟩ a w
 revert x0
 intro (x0 : Int) hpre hlens h
 have hT : TabOK Try.prog S_cmp_isNaN_int__tab := .nil
 refine wp_seq ?_
 refine at_regq [] { ts := [0, 2], os := [] } [] gamOK hT h (by kernel_rfl) trivial fun a w h => then_normal (wp_seq ?_)
 refine at_regq [] { ts := [2], os := [] } [] gamOK hT h (by kernel_rfl) trivial fun a w h => then_normal (wp_ret ?_)
 exact at_return (!decide (x0 = x0), ()) [] h (by kernel_rfl) trivial (congrArg (fun z => (z, ())) (show (!decide (x0 = x0)) = D_cmp_isNaN_int_ x0 from by unfold D_cmp_isNaN_int_; simp))

def D_cmp_Less_int_ := (fun (a b : Int) => decide (a < b))
def S_cmp_Less_int_ : Sum := { fid := 32, dom := [(.int 3), (.int 3)], cod := [(.bool 4)], dp := true, fz := false, pre := fun x => True, g := fun x => ((D_cmp_Less_int_ x.1 x.2.1), ()) }
def S_cmp_Less_int__tab : List (Nat × Sum) := [(41, S_cmp_isNaN_int_)]
theorem S_cmp_Less_int__ok : FnOK Try.prog 32 S_cmp_Less_int_ := by
 refine at_enter 17 (fun x => ⟨[(0, aI x.1), (1, aI x.2.1)], []⟩) Try.func32 rfl (by kernel_rfl) (fun x => rfl) ?_
 rintro w0 Z0 ⟨x0, x1, u⟩ a w
 revert x0 x1
 intro (x0 : Int) (x1 : Int) hpre hlens h
 have hT : TabOK Try.prog S_cmp_Less_int__tab := (.cons S_cmp_isNaN_int__ok .nil)
 refine wp_seq ?_
 refine at_regq [] { ts := [0, 1, 4], os := [] } [] gamOK hT h (by kernel_rfl) trivial fun a w h => then_normal (wp_seq ?_)
 rcases Bool.eq_false_or_eq_true ((D_cmp_isNaN_int_ x0)) with h1 | h1
 ·rcases Bool.eq_false_or_eq_true (!(D_cmp_isNaN_int_ x1)) with h2 | h2
  ·have hzh2 : (D_cmp_isNaN_int_ x1) = false := notT h2
   refine at_regq [{}, { hint := some (aB true) }, {}, {}, {}, { hint := some (aB true) }] { ts := [4], os := [] } [True, (AV.p (.c (.v (.bool ((D_cmp_isNaN_int_ x0))))) = AV.p (.c (.v (.bool true)))), True, (AV.p (.c (.v (.bool (!(D_cmp_isNaN_int_ x1))))) = AV.p (.c (.v (.bool true))))] gamOK hT h (by kernel_rfl) ⟨trivial, hint_bool (h1), trivial, hint_bool (h2), trivial⟩ fun a w h => then_normal (wp_ret ?_)
   exact at_return (true, ()) [] h (by kernel_rfl) trivial (congrArg (fun z => (z, ())) (show (true) = D_cmp_Less_int_ x0 x1 from by unfold D_cmp_Less_int_; simp_all [D_cmp_isNaN_int_]))
  ·have hzh2 : (D_cmp_isNaN_int_ x1) = true := notF h2
   refine at_regq [{}, { hint := some (aB true) }, {}, {}, {}, { hint := some (aB false) }] { ts := [4], os := [] } [True, (AV.p (.c (.v (.bool ((D_cmp_isNaN_int_ x0))))) = AV.p (.c (.v (.bool true)))), True, (AV.p (.c (.v (.bool (!(D_cmp_isNaN_int_ x1))))) = AV.p (.c (.v (.bool false))))] gamOK hT h (by kernel_rfl) ⟨trivial, hint_bool (h1), trivial, hint_bool (h2), trivial⟩ fun a w h => then_normal (wp_ret ?_)
   exact at_return (decide (x0 < x1), ()) [] h (by kernel_rfl) trivial (congrArg (fun z => (z, ())) (show (decide (x0 < x1)) = D_cmp_Less_int_ x0 x1 from by unfold D_cmp_Less_int_; simp_all [D_cmp_isNaN_int_]))
 ·refine at_regq [{}, { hint := some (aB false) }] { ts := [4], os := [] } [True, (AV.p (.c (.v (.bool ((D_cmp_isNaN_int_ x0))))) = AV.p (.c (.v (.bool false))))] gamOK hT h (by kernel_rfl) ⟨trivial, hint_bool (h1), trivial⟩ fun a w h => then_normal (wp_ret ?_)
  exact at_return (decide (x0 < x1), ()) [] h (by kernel_rfl) trivial (congrArg (fun z => (z, ())) (show (decide (x0 < x1)) = D_cmp_Less_int_ x0 x1 from by unfold D_cmp_Less_int_; simp_all [D_cmp_isNaN_int_]))

def D_slices_BinarySearch_S_int_int_ := (fun (xs : List Int) (v : Int) => (((bsF (ltAt xs v) 0 xs.length : Nat) : Int), decide (bsF (ltAt xs v) 0 xs.length < xs.length ∧ xs.getD (bsF (ltAt xs v) 0 xs.length) 0 = v)))
abbrev Q_slices_BinarySearch_S_int_int_ := (fun (x0 : (List Int)) (x1 : Int) => Sh.fit s24 x0)
def S_slices_BinarySearch_S_int_int_ : Sum := { fid := 17, dom := [s24, (.int 3)], cod := [(.int 3), (.bool 4)], dp := true, fz := false, pre := fun x => Q_slices_BinarySearch_S_int_int_ x.1 x.2.1, g := fun x => ((D_slices_BinarySearch_S_int_int_ x.1 x.2.1).1, ((D_slices_BinarySearch_S_int_int_ x.1 x.2.1).2, ())) }
def S_slices_BinarySearch_S_int_int__tab : List (Nat × Sum) := [(32, S_cmp_Less_int_), (33, S_slices_isNaN_int_)]
theorem S_slices_BinarySearch_S_int_int__ok : FnOK Try.prog 17 S_slices_BinarySearch_S_int_int_ := by
 refine at_enter 54 (fun x => ⟨[(0, aF (.int 3) x.1), (1, aI x.2.1)], []⟩) Try.func17 rfl (by kernel_rfl) (fun x => rfl) ?_
 rintro w0 Z0 ⟨x0, x1, u⟩ a w
 revert x0 x1
 intro (x0 : (List Int)) (x1 : Int) hpre hlens h
 replace hpre : Q_slices_BinarySearch_S_int_int_ x0 x1 := hpre
 have hT : TabOK Try.prog S_slices_BinarySearch_S_int_int__tab := (.cons S_cmp_Less_int__ok (.cons S_slices_isNaN_int__ok .nil))
 have hf0 : Sh.fit s24 x0 := hpre
 have hn0_1 : List.length x0 ≤ 1073741824 := hf0.1
 refine wp_seq ?_
 refine at_regq [] { ts := [0, 1, 4, 5], os := [] } [] gamOK hT h (by kernel_rfl) trivial fun a w h => then_normal (wp_seq ?_)
 refine at_regq [] { ts := [0, 1, 4, 5, 6], os := [] } [] gamOK hT h (by kernel_rfl) trivial fun a w h => then_normal (wp_seq ?_)
 refine at_regq [] { ts := [0, 1, 4, 5, 6, 7, 8], os := [] } [] gamOK hT h (by kernel_rfl) trivial fun a w h => then_normal (wp_seq (wp_block ?_))
 replace h := at_out (σ' := ⟨[(0, aF (.int 3) x0), (1, aI x1), (4, aI 0), (5, aB false), (6, aI ((List.length x0 : Nat) : Int)), (7, aI 0), (8, aI ((List.length x0 : Nat) : Int))], []⟩) { ts := [0, 1, 4, 5, 6, 7, 8], os := [] } h (by kernel_rfl)
 refine at_loop (fun q : (Nat × Nat) => (⟨[(0, aF (.int 3) x0), (1, aI x1), (4, aI 0), (5, aB false), (6, aI ((List.length x0 : Nat) : Int)), (7, aI ((q.1 : Nat) : Int)), (8, aI ((q.2 : Nat) : Int))], []⟩ : St)) (fun q => (q.1 ≤ q.2 ∧ q.2 ≤ List.length x0 ∧ bsF (ltAt x0 x1) q.1 q.2 = bsF (ltAt x0 x1) 0 (List.length x0))) (fun q => q.2 - q.1) ((0, List.length x0)) h (st_congr2 (fun (d0 : Int) (d1 : Int) => (⟨[(0, aF (.int 3) x0), (1, aI x1), (4, aI 0), (5, aB false), (6, aI ((List.length x0 : Nat) : Int)), (7, aI d0), (8, aI d1)], []⟩ : St)) (show (0 : Int) = ((((0, List.length x0)).1 : Nat) : Int) from by first | with_reducible rfl | (rfl) | rfl) (show (((List.length x0 : Nat) : Int) : Int) = ((((0, List.length x0)).2 : Nat) : Int) from by first | with_reducible rfl | (rfl) | rfl)) (by exact ⟨Nat.zero_le _, Nat.le_refl _, rfl⟩) ?_
 intro q a w hok0 h
 refine wp_seq (wp_seq ?_)
 refine at_regq [] { ts := [0, 1, 4, 5, 6, 7, 8, 15], os := [] } [] gamOK hT h (by kernel_rfl) trivial fun a w h => then_normal ?_
 refine at_test (decide (((q.1 : Nat) : Int) < ((q.2 : Nat) : Int))) h (by kernel_rfl) (fun h1 => ?_) (fun h1 => ?_)
 ·replace h1 : ((q.1 : Nat) : Int) < ((q.2 : Nat) : Int) := of_decide_eq_true h1
  refine wp_skip (then_normal (wp_block (wp_seq ?_)))
  refine at_regq [{}, {}, { nw := true }, {}, {}, { hint := some (aI (((q.1 + q.2) / 2 : Nat) : Int)) }] { ts := [0, 1, 4, 5, 6, 7, 8, 9], os := [] } [I64 (((q.1 : Nat) : Int) + ((q.2 : Nat) : Int)), (0 : Int) ≤ 1, (AV.p (.c (.v (.int .i64 (IntKind.i64.wrap ((Int.fdiv (IntKind.u64.wrap (((q.1 : Nat) : Int) + ((q.2 : Nat) : Int))) (2 ^ (min (1 : Int).toNat (IntKind.u64).bits)))))))) = AV.p (.c (.v (.int .i64 ((((q.1 + q.2) / 2 : Nat) : Int))))))] gamOK hT h (by kernel_rfl) ⟨⟨by first | omega | (simp only [lsA]; omega) | (simp <;> omega), by first | omega | (simp only [lsA]; omega) | (simp <;> omega)⟩, (by first | omega | (simp only [lsA]; omega) | (simp <;> omega)), hint_int (by exact half_eq (by omega)), trivial⟩ fun a w h => then_normal (wp_seq ?_)
  refine at_regq [] { ts := [0, 1, 4, 5, 6, 7, 8, 9, 27], os := [] } [(0 : Int) ≤ (((q.1 + q.2) / 2 : Nat) : Int) ∧ (((q.1 + q.2) / 2 : Nat) : Int) < ((List.length x0 : Nat) : Int), True] gamOK hT h (by kernel_rfl) ⟨(by refine ⟨?_, ?_⟩ <;> (first | omega | (simp only [lsA]; omega) | (simp <;> omega))), trivial, trivial⟩ fun a w h => then_normal ?_
  refine at_test ((D_cmp_Less_int_ (x0.getD ((q.1 + q.2) / 2) 0) x1)) h (by kernel_rfl) (fun h2 => ?_) (fun h2 => ?_)
  ·refine at_regq [{}, { nw := true }] { ts := [0, 1, 4, 5, 6, 7, 8], os := [] } [I64 ((((q.1 + q.2) / 2 : Nat) : Int) + 1)] gamOK hT h (by kernel_rfl) ⟨⟨by first | omega | (simp only [lsA]; omega) | (simp <;> omega), by first | omega | (simp only [lsA]; omega) | (simp <;> omega)⟩, trivial⟩ fun a w h => in_normal ?_
   replace h := at_out (σ' := ⟨[(0, aF (.int 3) x0), (1, aI x1), (4, aI 0), (5, aB false), (6, aI ((List.length x0 : Nat) : Int)), (7, aI ((((q.1 + q.2) / 2 : Nat) : Int) + 1)), (8, aI ((q.2 : Nat) : Int))], []⟩) { ts := [0, 1, 4, 5, 6, 7, 8], os := [] } h (by kernel_rfl)
   exact ⟨((q.1 + q.2) / 2 + 1, q.2), at_eq h (st_congr2 (fun (d0 : Int) (d1 : Int) => (⟨[(0, aF (.int 3) x0), (1, aI x1), (4, aI 0), (5, aB false), (6, aI ((List.length x0 : Nat) : Int)), (7, aI d0), (8, aI d1)], []⟩ : St)) (show ((((q.1 + q.2) / 2 : Nat) : Int) + 1 : Int) = (((((q.1 + q.2) / 2 + 1, q.2)).1 : Nat) : Int) from by first | with_reducible rfl | (dsimp only; omega) | rfl) (show (((q.2 : Nat) : Int) : Int) = (((((q.1 + q.2) / 2 + 1, q.2)).2 : Nat) : Int) from by first | with_reducible rfl | (dsimp only; omega) | rfl)), (by dsimp only; first | (refine ⟨by omega, by omega, ?_⟩; exact (bsF_up (by omega) (show ltAt x0 x1 _ = true from h2)).symm.trans hok0.2.2) | (refine ⟨by omega, by omega, ?_⟩; exact (bsF_down (by omega) (show ltAt x0 x1 _ = false from h2)).symm.trans hok0.2.2)), (by dsimp only; omega)⟩
  ·refine at_regq [] { ts := [0, 1, 4, 5, 6, 7, 8], os := [] } [] gamOK hT h (by kernel_rfl) trivial fun a w h => in_normal ?_
   replace h := at_out (σ' := ⟨[(0, aF (.int 3) x0), (1, aI x1), (4, aI 0), (5, aB false), (6, aI ((List.length x0 : Nat) : Int)), (7, aI ((q.1 : Nat) : Int)), (8, aI (((q.1 + q.2) / 2 : Nat) : Int))], []⟩) { ts := [0, 1, 4, 5, 6, 7, 8], os := [] } h (by kernel_rfl)
   exact ⟨(q.1, (q.1 + q.2) / 2), at_eq h (st_congr2 (fun (d0 : Int) (d1 : Int) => (⟨[(0, aF (.int 3) x0), (1, aI x1), (4, aI 0), (5, aB false), (6, aI ((List.length x0 : Nat) : Int)), (7, aI d0), (8, aI d1)], []⟩ : St)) (show (((q.1 : Nat) : Int) : Int) = ((((q.1, (q.1 + q.2) / 2)).1 : Nat) : Int) from by first | with_reducible rfl | (dsimp only; omega) | rfl) (show ((((q.1 + q.2) / 2 : Nat) : Int) : Int) = ((((q.1, (q.1 + q.2) / 2)).2 : Nat) : Int) from by first | with_reducible rfl | (dsimp only; omega) | rfl)), (by dsimp only; first | (refine ⟨by omega, by omega, ?_⟩; exact (bsF_up (by omega) (show ltAt x0 x1 _ = true from h2)).symm.trans hok0.2.2) | (refine ⟨by omega, by omega, ?_⟩; exact (bsF_down (by omega) (show ltAt x0 x1 _ = false from h2)).symm.trans hok0.2.2)), (by dsimp only; omega)⟩
 ·replace h1 : ¬ (((q.1 : Nat) : Int) < ((q.2 : Nat) : Int)) := of_decide_eq_false h1
  refine wp_exit (then_exit (then_exit (in_hit (then_normal (wp_seq ?_)))))
  by_cases h3 : ((q.1 : Nat) : Int) < ((List.length x0 : Nat) : Int)
  ·by_cases h4 : (x0.getD q.1 0) = x1
   ·refine at_regq [{}, {}, {}, { hint := some (aB true) }, {}, {}, {}, {}, {}, {}, { hint := some (aB true) }] { ts := [4, 5], os := [] } [(AV.p (.c (.v (.bool (decide (((q.1 : Nat) : Int) < ((List.length x0 : Nat) : Int)))))) = AV.p (.c (.v (.bool true)))), (0 : Int) ≤ ((q.1 : Nat) : Int) ∧ ((q.1 : Nat) : Int) < ((List.length x0 : Nat) : Int), (AV.p (.c (.v (.bool (decide ((x0.getD q.1 0) = x1))))) = AV.p (.c (.v (.bool true))))] gamOK hT h (by kernel_rfl) ⟨hint_bool (decide_eq_true h3), (by refine ⟨?_, ?_⟩ <;> (first | omega | (simp only [lsA]; omega) | (simp <;> omega))), hint_bool (decide_eq_true h4), trivial⟩ fun a w h => then_normal (wp_ret ?_)
    exact at_return (((q.1 : Nat) : Int), (true, ())) [] h (by kernel_rfl) trivial (congrArg (fun z => (z.1, z.2, ())) (show ((((q.1 : Nat) : Int), true)) = D_slices_BinarySearch_S_int_int_ x0 x1 from by unfold D_slices_BinarySearch_S_int_int_; (have e := hok0.2.2; rw [bsF_end (by omega)] at e; rw [← e] at *; first | (simp_all [D_slices_isNaN_int_]; done) | (simp_all [D_slices_isNaN_int_]; omega))))
   ·rcases Bool.eq_false_or_eq_true ((D_slices_isNaN_int_ (x0.getD q.1 0))) with h5 | h5
    ·refine at_regq [{}, {}, {}, { hint := some (aB true) }, {}, {}, {}, {}, {}, {}, { hint := some (aB false) }, {}, {}, {}, {}, {}, { hint := some (aB true) }] { ts := [4, 5], os := [] } [(AV.p (.c (.v (.bool (decide (((q.1 : Nat) : Int) < ((List.length x0 : Nat) : Int)))))) = AV.p (.c (.v (.bool true)))), (0 : Int) ≤ ((q.1 : Nat) : Int) ∧ ((q.1 : Nat) : Int) < ((List.length x0 : Nat) : Int), (AV.p (.c (.v (.bool (decide ((x0.getD q.1 0) = x1))))) = AV.p (.c (.v (.bool false)))), (0 : Int) ≤ ((q.1 : Nat) : Int) ∧ ((q.1 : Nat) : Int) < ((List.length x0 : Nat) : Int), True, (AV.p (.c (.v (.bool ((D_slices_isNaN_int_ (x0.getD q.1 0)))))) = AV.p (.c (.v (.bool true)))), True] gamOK hT h (by kernel_rfl) ⟨hint_bool (decide_eq_true h3), (by refine ⟨?_, ?_⟩ <;> (first | omega | (simp only [lsA]; omega) | (simp <;> omega))), hint_bool (decide_eq_false h4), (by refine ⟨?_, ?_⟩ <;> (first | omega | (simp only [lsA]; omega) | (simp <;> omega))), trivial, hint_bool (h5), trivial, trivial⟩ fun a w h => then_normal (wp_ret ?_)
     exact at_return (((q.1 : Nat) : Int), ((D_slices_isNaN_int_ x1), ())) [] h (by kernel_rfl) trivial (congrArg (fun z => (z.1, z.2, ())) (show ((((q.1 : Nat) : Int), (D_slices_isNaN_int_ x1))) = D_slices_BinarySearch_S_int_int_ x0 x1 from by unfold D_slices_BinarySearch_S_int_int_; (have e := hok0.2.2; rw [bsF_end (by omega)] at e; rw [← e] at *; first | (simp_all [D_slices_isNaN_int_]; done) | (simp_all [D_slices_isNaN_int_]; omega))))
    ·refine at_regq [{}, {}, {}, { hint := some (aB true) }, {}, {}, {}, {}, {}, {}, { hint := some (aB false) }, {}, {}, {}, {}, {}, { hint := some (aB false) }] { ts := [4, 5], os := [] } [(AV.p (.c (.v (.bool (decide (((q.1 : Nat) : Int) < ((List.length x0 : Nat) : Int)))))) = AV.p (.c (.v (.bool true)))), (0 : Int) ≤ ((q.1 : Nat) : Int) ∧ ((q.1 : Nat) : Int) < ((List.length x0 : Nat) : Int), (AV.p (.c (.v (.bool (decide ((x0.getD q.1 0) = x1))))) = AV.p (.c (.v (.bool false)))), (0 : Int) ≤ ((q.1 : Nat) : Int) ∧ ((q.1 : Nat) : Int) < ((List.length x0 : Nat) : Int), True, (AV.p (.c (.v (.bool ((D_slices_isNaN_int_ (x0.getD q.1 0)))))) = AV.p (.c (.v (.bool false))))] gamOK hT h (by kernel_rfl) ⟨hint_bool (decide_eq_true h3), (by refine ⟨?_, ?_⟩ <;> (first | omega | (simp only [lsA]; omega) | (simp <;> omega))), hint_bool (decide_eq_false h4), (by refine ⟨?_, ?_⟩ <;> (first | omega | (simp only [lsA]; omega) | (simp <;> omega))), trivial, hint_bool (h5), trivial⟩ fun a w h => then_normal (wp_ret ?_)
     exact at_return (((q.1 : Nat) : Int), (false, ())) [] h (by kernel_rfl) trivial (congrArg (fun z => (z.1, z.2, ())) (show ((((q.1 : Nat) : Int), false)) = D_slices_BinarySearch_S_int_int_ x0 x1 from by unfold D_slices_BinarySearch_S_int_int_; (have e := hok0.2.2; rw [bsF_end (by omega)] at e; rw [← e] at *; first | (simp_all [D_slices_isNaN_int_]; done) | (simp_all [D_slices_isNaN_int_]; omega))))
  ·refine at_regq [{}, {}, {}, { hint := some (aB false) }] { ts := [4, 5], os := [] } [(AV.p (.c (.v (.bool (decide (((q.1 : Nat) : Int) < ((List.length x0 : Nat) : Int)))))) = AV.p (.c (.v (.bool false))))] gamOK hT h (by kernel_rfl) ⟨hint_bool (decide_eq_false h3), trivial⟩ fun a w h => then_normal (wp_ret ?_)
   exact at_return (((q.1 : Nat) : Int), (false, ())) [] h (by kernel_rfl) trivial (congrArg (fun z => (z.1, z.2, ())) (show ((((q.1 : Nat) : Int), false)) = D_slices_BinarySearch_S_int_int_ x0 x1 from by unfold D_slices_BinarySearch_S_int_int_; (have e := hok0.2.2; rw [bsF_end (by omega)] at e; rw [← e] at *; first | (simp_all [D_slices_isNaN_int_]; done) | (simp_all [D_slices_isNaN_int_]; omega))))
theorem bs_fact (xs : List Int) (v : Int) : 0 ≤ (D_slices_BinarySearch_S_int_int_ xs v).1 ∧ (D_slices_BinarySearch_S_int_int_ xs v).1 ≤ ((List.length xs : Nat) : Int) := by
 have := bsF_bd (ltAt xs v) xs.length 0 xs.length (by omega) (by omega)
 unfold D_slices_BinarySearch_S_int_int_
 dsimp only
 omega
theorem bs_true {xs : List Int} {v : Int} (h : (D_slices_BinarySearch_S_int_int_ xs v).2 = true) : (D_slices_BinarySearch_S_int_int_ xs v).1 < ((List.length xs : Nat) : Int) := by
 unfold D_slices_BinarySearch_S_int_int_ at h ⊢
 dsimp only at h ⊢
 have := (of_decide_eq_true h).1
 omega

section
open Go.Shelf Go.Lib
set_option maxRecDepth 100000 in
theorem insA19 (w : World) (A : Option Addr) (n c gu m cu : Nat) (hm : 0 < m) (hnc : n ≤ c) (hc : c ≤ 9223372036854775807) (hA : A = none → c = 0) (v' : Value) (w' : World)
    (hrun : ∀ ty, (Builtin.append_ #[24, 24] ty #[.slice A n c, .slice (some ⟨gu, 0, none⟩) m cu]).run Try.prog w = .ok v' w') :
    Calls Try.prog 19 #[.slice A n c, .int .i64 n, .slice (some ⟨gu, 0, none⟩) m cu] w fun e w'' => e = .returned v' ∧ w'' = w' := by
  have u34 := run_underlying Try.underlying24
  have hz1 : ¬ ((m : Int) = 0) := by omega
  go_enter Try.func19, Try.ntmps19
  go_wp2_with (at_builtin; refine Lib.wpList_append_run _ rfl _ _ _ _ rfl _ _ rfl rfl _ _ (hrun _) ?_)
  all_goals (go_ret; exact ⟨rfl, rfl⟩)
set_option maxRecDepth 100000 in
theorem insB19 (w : World) (g n c i gu m cu W C : Nat) (hm : 0 < m) (hi : i < n) (hnc : n ≤ c) (hroom : c < n + m) (hbig : n + m ≤ 9223372036854775807) (hC : n + m ≤ C) (w1 w2 w3 : World) (x1 x2 : Value)
    (hrun0 : ∀ ty, (Builtin.append_ #[24, 3] ty #[.slice (some ⟨g, 0, none⟩) i c, .int .i64 ((n : Int) + (m : Int) - (i : Int))]).run Try.prog w = .ok (.slice (some ⟨W, 0, none⟩) (n + m) C) w1)
    (hrun1 : ∀ ty, (Builtin.copy_ #[24, 24] ty #[.slice (some ⟨W, i, none⟩) (n + m - i) (C - i), .slice (some ⟨gu, 0, none⟩) m cu]).run Try.prog w1 = .ok x1 w2)
    (hrun2 : ∀ ty, (Builtin.copy_ #[24, 24] ty #[.slice (some ⟨W, i + m, none⟩) (n + m - (i + m)) (C - (i + m)), .slice (some ⟨g, i, none⟩) (n - i) (c - i)]).run Try.prog w2.drew = .ok x2 w3) :
    Calls Try.prog 19 #[.slice (some ⟨g, 0, none⟩) n c, .int .i64 i, .slice (some ⟨gu, 0, none⟩) m cu] w fun e w'' => e = .returned (.slice (some ⟨W, 0, none⟩) (n + m) C) ∧ w'' = w3 := by
  have u34 := run_underlying Try.underlying24
  have u3 := run_underlying Try.underlying3
  have hz1 : ¬ ((m : Int) = 0) := by omega
  have hz2 : ¬ ((i : Int) = (n : Int)) := by omega
  have hz3 : (c : Int) < (n : Int) + (m : Int) := by omega
  have hw0 : IntKind.i64.wrap ((n : Int) + (m : Int)) = (n : Int) + (m : Int) := by rw [IntKind.wrap_i64]; omega
  have hw2 : IntKind.i64.wrap ((n : Int) + (m : Int) - (i : Int)) = (n : Int) + (m : Int) - (i : Int) := by rw [IntKind.wrap_i64]; omega
  have hw1 : IntKind.i64.wrap ((i : Int) + (m : Int)) = (i : Int) + (m : Int) := by rw [IntKind.wrap_i64]; omega
  have hb1 : (0 : Int) ≤ (i : Int) + (m : Int) := by omega
  have hin : i ≤ n := by omega
  have hic : i ≤ c := by omega
  have hinm : i ≤ n + m := by omega
  have htn : ((i : Int) + (m : Int)).toNat = i + m := by omega
  have hb2 : ¬ (C = i + m) := by omega
  have hb5 : ¬ (C = i) := by omega
  have hb3 : (i : Int) ≤ (n : Int) + (m : Int) := by omega
  have hb4 : ¬ (c = i) := by omega
  have mixed : Try.prog.follows .mixedOrders = true := by kernel_rfl
  go_enter Try.func19, Try.ntmps19
  go_wp2_with (first
    | (at_builtin; refine Lib.wpList_append_run _ rfl _ _ _ _ rfl _ _ rfl rfl _ _ (hrun0 _) ?_)
    | (at_builtin; refine wpList_copy_runI _ rfl _ _ _ _ rfl _ _ rfl rfl (hrun1 _) ?_))
  go_region_law_o (refine step_copy_runI rfl _ _ 24 24 rfl _ _ (by simp [Act.eval, Act.put]) (by simp [Act.eval, Act.put]) (hrun2 _) ?_)
  go_wp2_with (fail)
  go_ret
  exact ⟨rfl, rfl⟩
set_option maxRecDepth 100000 in
theorem insC19 (w : World) (g n c i gu m cu : Nat) (hm : 0 < m) (hi : i < n) (hroom : n + m ≤ c) (hc : c ≤ 9223372036854775807) (hne : gu ≠ g) (tA tB : TypeId) (kA kB : Nat) (hsa : w.shape? gu = some (tA, kA)) (hsb : w.shape? g = some (tB, kB)) (hkB : kB ≠ 0) (hfa : w.frozen? ⟨gu, 0, none⟩ = false) (hfe : w.frozen? ⟨gu, kA, none⟩ = false)
    (w1 w2 : World) (x1 x2 : Value)
    (hrun1 : ∀ ty, (Builtin.copy_ #[24, 24] ty #[.slice (some ⟨g, i + m, none⟩) (n + m - (i + m)) (c - (i + m)), .slice (some ⟨g, i, none⟩) (n + m - i) (c - i)]).run Try.prog w.drew = .ok x1 w1)
    (hrun2 : ∀ ty, (Builtin.copy_ #[24, 24] ty #[.slice (some ⟨g, i, none⟩) (n + m - i) (c - i), .slice (some ⟨gu, 0, none⟩) m cu]).run Try.prog w1 = .ok x2 w2) :
    Calls Try.prog 19 #[.slice (some ⟨g, 0, none⟩) n c, .int .i64 i, .slice (some ⟨gu, 0, none⟩) m cu] w fun e w'' => e = .returned (.slice (some ⟨g, 0, none⟩) (n + m) c) ∧ w'' = w2 := by
  have u34 := run_underlying Try.underlying24
  have u3 := run_underlying Try.underlying3
  have hz1 : ¬ ((m : Int) = 0) := by omega
  have hz2 : ¬ ((i : Int) = (n : Int)) := by omega
  have hz3 : ¬ ((c : Int) < (n : Int) + (m : Int)) := by omega
  have hw0 : IntKind.i64.wrap ((n : Int) + (m : Int)) = (n : Int) + (m : Int) := by rw [IntKind.wrap_i64]; omega
  have hw1 : IntKind.i64.wrap ((i : Int) + (m : Int)) = (i : Int) + (m : Int) := by rw [IntKind.wrap_i64]; omega
  have hb1 : (0 : Int) ≤ (i : Int) + (m : Int) := by omega
  have hb0 : (0 : Int) ≤ (n : Int) + (m : Int) := by omega
  have hb6 : (n : Int) + (m : Int) ≤ (c : Int) := by omega
  have hin : i ≤ n := by omega
  have hic : i ≤ c := by omega
  have hinm : i ≤ n + m := by omega
  have htn : ((i : Int) + (m : Int)).toNat = i + m := by omega
  have htn2 : ((n : Int) + (m : Int)).toNat = n + m := by omega
  have hb2 : ¬ (c = i + m) := by omega
  have hb3 : (i : Int) ≤ (n : Int) + (m : Int) := by omega
  have hb4 : ¬ (c = i) := by omega
  have mixed : Try.prog.follows .mixedOrders = true := by kernel_rfl
  have hsz : ∀ w, (Go.sizeOf 3).run Try.prog w = .ok 1 w := fun w => size_run (P := Try.prog) (t := 3) (n := 1) (by kernel_rfl) w
  have hov : ∀ lb cb, (callFunc 34 #[.slice (some ⟨gu, 0, none⟩) m cu, .slice (some ⟨g, i + m, none⟩) lb cb]).run Try.prog w = .ok (.value (.bool false)) w := fun lb cb => by
    rw [run_callFunc_extern Try.func34 (by kernel_rfl) (by kernel_rfl) (by kernel_rfl) (e := Extern.SlicesOverlaps.overlaps #[24, 24] #[4]) (by kernel_rfl),
      Lib.run_overlaps_apart w 24 4 3 Try.underlying24 1 hsz ⟨gu, 0, none⟩ ⟨g, i + m, none⟩ m cu lb cb hne tA tB kA kB hsa hsb hkB hfa hfe]
    rfl
  go_enter Try.func19, Try.ntmps19
  go_wp2_with (simp only [hov])
  go_region_law_o (refine step_copy_runI rfl _ _ 24 24 rfl _ _ (by simp [Act.eval, Act.put]) (by simp [Act.eval, Act.put]) (hrun1 _) ?_)
  go_wp2_with (at_builtin; refine wpList_copy_runI _ rfl _ _ _ _ rfl _ _ rfl rfl (hrun2 _) ?_)
  go_ret
  exact ⟨rfl, rfl⟩

theorem insR19 : InsRoads Try.prog 19 24 3 1 := ⟨insA19, fun w g n c i gu m cu W C h1 h2 h3 h4 h5 h6 w1 w2 w3 x1 x2 a b d => insB19 w g n c i gu m cu W C h1 h2 h3 h4 h5 h6 w1 w2 w3 x1 x2 a (by simpa only [Nat.mul_one] using b) (by simpa only [Nat.mul_one] using d), fun w g n c i gu m cu h1 h2 h3 h4 h5 tA tB kA kB a1 a2 a3 a4 a5 w1 w2 x1 x2 b d => insC19 w g n c i gu m cu h1 h2 h3 h4 h5 tA tB kA kB a1 a2 a3 a4 a5 w1 w2 x1 x2 (by simpa only [Nat.mul_one] using b) (by simpa only [Nat.mul_one] using d)⟩
def D_slices_Insert_S_int_int_ (x0 : List Int) (x1 : Int) (x2 : List Int) : List Int := insAt x0 x1.toNat x2
def S_slices_Insert_S_int_int_ : Sum := insSum 19 24 3 (.int 3) 8
theorem S_slices_Insert_S_int_int__ok : FnOK Try.prog 19 S_slices_Insert_S_int_int_ := insert_ok (bytes := 8) (.int 3) insR19 (Elem.of (.int .i64 0) Try.underlying24 (by kernel_rfl) rfl (by decide) (by decide)) Try.underlying3
end

section
open Go.Shelf Go.Lib
set_option maxRecDepth 100000 in
theorem delA22 (w : World) (A : Option Addr) (n c i : Nat) (hi : i ≤ n) (hnc : n ≤ c) (hc : c ≤ 9223372036854775807) :
    Calls Try.prog 22 #[.slice A n c, .int .i64 i, .int .i64 i] w fun e w'' => e = .returned (.slice A n c) ∧ w'' = w := by
  have u34 := run_underlying Try.underlying24
  have h1 : (i : Int) ≤ (n : Int) := by omega
  have h2 : (n : Int) ≤ (c : Int) := by omega
  go_enter Try.func22, Try.ntmps22
  go_wp2_with (fail)
  all_goals (go_ret; exact ⟨rfl, rfl⟩)
set_option maxRecDepth 100000 in
theorem delB22 (w : World) (g n c i j : Nat) (hij : i < j) (hj : j ≤ n) (hnc : n ≤ c) (hc : c ≤ 9223372036854775807) (w1 w2 : World) (x2 : Value)
    (hrun1 : ∀ ty, (Builtin.append_ #[24, 24] ty #[.slice (some ⟨g, 0, none⟩) i c, .slice (if c = j then some ⟨g, 0, none⟩ else some ⟨g, j, none⟩) (n - j) (c - j)]).run Try.prog w.drew = .ok (.slice (some ⟨g, 0, none⟩) (i + (n - j)) c) w1)
    (hrun2 : ∀ ty, (Builtin.clear_ #[24] ty #[.slice (some ⟨g, i + (n - j), none⟩) (n - (i + (n - j))) (c - (i + (n - j)))]).run Try.prog w1 = .ok x2 w2) :
    Calls Try.prog 22 #[.slice (some ⟨g, 0, none⟩) n c, .int .i64 i, .int .i64 j] w fun e w'' => e = .returned (.slice (some ⟨g, 0, none⟩) (i + (n - j)) c) ∧ w'' = w2 := by
  have u34 := run_underlying Try.underlying24
  have h1 : (j : Int) ≤ (n : Int) := by omega
  have h2 : (n : Int) ≤ (c : Int) := by omega
  have h3 : (i : Int) ≤ (j : Int) := by omega
  have h4 : ¬ ((i : Int) = (j : Int)) := by omega
  have h5 : i ≤ c := by omega
  have h6 : j ≤ n := hj
  have h7 : ¬ (c = i + (n - j)) := by omega
  have h8 : i + (n - j) ≤ n := by omega
  have h9 : n ≤ c := hnc
  have mixed : Try.prog.follows .mixedOrders = true := by kernel_rfl
  go_enter Try.func22, Try.ntmps22
  go_wp2_with (fail)
  all_goals go_region_law_o (refine step_append_runI rfl _ _ 24 24 rfl _ _ (by simp [Act.eval, Act.put]) (by simp [Act.eval, Act.put]) (hrun1 _) ?_)
  all_goals go_wp2_with (at_builtin; refine wpList_clear_runI _ rfl _ _ rfl _ rfl (hrun2 _) ?_)
  all_goals (go_ret; exact ⟨rfl, rfl⟩)

theorem delR22 : DelRoads Try.prog 22 24 1 := ⟨delA22, fun w g n c i j h1 h2 h3 h4 w1 w2 x2 b d => delB22 w g n c i j h1 h2 h3 h4 w1 w2 x2 (by simpa only [Nat.mul_one] using b) (by simpa only [Nat.mul_one] using d)⟩
def D_slices_Delete_S_int_int_ (x0 : List Int) (x1 x2 : Int) : List Int := delAt x0 x1.toNat x2.toNat
def S_slices_Delete_S_int_int_ : Sum := delSum 22 24 3 3 (.int 3)
theorem S_slices_Delete_S_int_int__ok : FnOK Try.prog 22 S_slices_Delete_S_int_int_ := delete_ok (bytes := 8) (.int 3) delR22 (Elem.of (.int .i64 0) Try.underlying24 (by kernel_rfl) rfl (by decide) (by decide)) (by kernel_rfl)
end

def validGroup (x0 : T26) : Bool := (if (allN (grpP x0.2.2) (List.length x0.2.2)) = true then (if (isKey x0.1) = true then (inR x0.2.1 0 100000) else false) else false)
abbrev Q_impl_IsValidGroup := (fun (x0 : T26) => Sh.fit s26 x0)
def S_impl_IsValidGroup : Sum := { fid := 8, dom := [s26], cod := [(.bool 4)], dp := true, fz := false, pre := fun x => Q_impl_IsValidGroup x.1, g := fun x => ((validGroup x.1), ()) }
def S_impl_IsValidGroup_tab : List (Nat × Sum) := [(20, S_impl_InRange), (21, S_impl_IsValidKey)]
theorem S_impl_IsValidGroup_ok : FnOK Try.prog 8 S_impl_IsValidGroup := by
 refine at_enter 39 (fun x => ⟨[(0, aG [cI x.1.1, cI x.1.2.1, .ro (.int 3) x.1.2.2])], []⟩) Try.func8 rfl (by kernel_rfl) (fun x => rfl) ?_
 rintro w0 Z0 ⟨x0, u⟩ a w
 revert x0
 intro (x0 : T26) hpre hlens h
 replace hpre : Q_impl_IsValidGroup x0 := hpre
 have hT : TabOK Try.prog S_impl_IsValidGroup_tab := (.cons S_impl_InRange_ok (.cons S_impl_IsValidKey_ok .nil))
 have hf0 : Sh.fit s26 x0 := hpre
 have hn0_1 : List.length x0.2.2 ≤ 1073741824 := hf0.2.2.1
 refine wp_seq ?_
 refine at_regq [{ ids := [1] }] { ts := [1, 2], os := [1] } [] gamOK hT h (by kernel_rfl) trivial fun a w h => then_normal (wp_seq (wp_seq ?_))
 refine at_regq [] { ts := [1, 2, 6, 7, 8], os := [1] } [] gamOK hT h (by kernel_rfl) trivial fun a w h => then_normal (wp_block ?_)
 replace h := at_out (σ' := ⟨[(1, aP 1 0), (2, aB false), (6, aF (.int 3) x0.2.2), (7, aI ((List.length x0.2.2 : Nat) : Int)), (8, aI 0)], [(1, oX 26 [cI x0.1, cI x0.2.1, .ro (.int 3) x0.2.2])]⟩) { ts := [1, 2, 6, 7, 8], os := [1] } h (by kernel_rfl)
 refine at_loop (fun i : Nat => (⟨[(1, aP 1 0), (2, aB false), (6, aF (.int 3) x0.2.2), (7, aI ((List.length x0.2.2 : Nat) : Int)), (8, aI ((i : Nat) : Int))], [(1, oX 26 [cI x0.1, cI x0.2.1, .ro (.int 3) x0.2.2])]⟩ : St)) (fun i => (i ≤ (List.length x0.2.2) ∧ allN (grpP x0.2.2) i = true)) (fun i => (List.length x0.2.2) - i) (0) h (st_congr1 (fun (d0 : Int) => (⟨[(1, aP 1 0), (2, aB false), (6, aF (.int 3) x0.2.2), (7, aI ((List.length x0.2.2 : Nat) : Int)), (8, aI d0)], [(1, oX 26 [cI x0.1, cI x0.2.1, .ro (.int 3) x0.2.2])]⟩ : St)) (show (0 : Int) = (((0) : Nat) : Int) from by first | with_reducible rfl | (rfl) | rfl)) (by exact ⟨Nat.zero_le _, rfl⟩) ?_
 intro i a w hok0 h
 refine wp_seq ?_
 refine at_regq [] { ts := [1, 2, 6, 7, 8, 9], os := [1] } [] gamOK hT h (by kernel_rfl) trivial fun a w h => then_normal (wp_seq ?_)
 refine at_test (decide (((i : Nat) : Int) < ((List.length x0.2.2 : Nat) : Int))) h (by kernel_rfl) (fun h1 => ?_) (fun h1 => ?_)
 ·replace h1 : ((i : Nat) : Int) < ((List.length x0.2.2 : Nat) : Int) := of_decide_eq_true h1
  refine wp_skip (then_normal (wp_seq (wp_block (wp_seq ?_))))
  refine at_regq [] { ts := [1, 2, 3, 4, 6, 7, 8], os := [1] } [(0 : Int) ≤ ((i : Nat) : Int) ∧ ((i : Nat) : Int) < ((List.length x0.2.2 : Nat) : Int)] gamOK hT h (by kernel_rfl) ⟨(by refine ⟨?_, ?_⟩ <;> (first | omega | (simp only [lsA]; omega) | (simp <;> omega))), trivial⟩ fun a w h => then_normal (wp_seq ?_)
  rcases Bool.eq_false_or_eq_true (!(inR (x0.2.2.getD i 0) 0 7)) with h2 | h2
  ·have hzh2 : (inR (x0.2.2.getD i 0) 0 7) = false := notT h2
   have hvh2 := inR_f (notT h2)
   refine at_regq [{}, {}, { hint := some (aB true) }] { ts := [1, 2, 6, 7, 8, 17, 18, 19, 20, 21, 22, 23, 24, 25, 26, 27, 28, 29], os := [1] } [True, (AV.p (.c (.v (.bool (!(inR (x0.2.2.getD i 0) 0 7))))) = AV.p (.c (.v (.bool true))))] gamOK hT h (by kernel_rfl) ⟨trivial, hint_bool (h2), trivial⟩ fun a w h => then_normal ?_
   refine at_test true h (by kernel_rfl) (fun hh => ?_) (fun hh => nomatch hh)
   refine wp_seq ?_
   refine at_regq [] { ts := [1, 2, 6, 7, 8, 17, 18, 19, 20, 21, 22, 23, 24, 25, 26, 27, 28], os := [1] } [] gamOK hT h (by kernel_rfl) trivial fun a w h => then_normal (wp_ret (in_ret (then_ret ?_)))
   have hs3 : (allN (grpP x0.2.2) (List.length x0.2.2)) = false := by exact allN_at (i := i) (by omega) (by exact grp_f (by omega))
   refine then_ret (in_ret (then_ret ?_))
   exact at_return (false, ()) [] h (by kernel_rfl) trivial (congrArg (fun z => (z, ())) (show (false) = validGroup x0 from by first | rfl | (unfold validGroup; rw [if_neg (neT hs3)])))
  ·have hzh2 : (inR (x0.2.2.getD i 0) 0 7) = true := notF h2
   have hvh2 := inR_t (notF h2)
   by_cases h4 : ((i : Nat) : Int) > 0
   ·refine at_regq [{}, {}, { hint := some (aB false) }, {}, {}, { hint := some (aB true) }, {}, {}, {}, {}, {}, { nw := true }] { ts := [1, 2, 6, 7, 8, 17, 18, 19, 20, 21, 22, 23, 24, 25, 26, 27, 28, 29], os := [1] } [True, (AV.p (.c (.v (.bool (!(inR (x0.2.2.getD i 0) 0 7))))) = AV.p (.c (.v (.bool false)))), (AV.p (.c (.v (.bool (decide (((i : Nat) : Int) > 0))))) = AV.p (.c (.v (.bool true)))), I64 (((i : Nat) : Int) - 1), (0 : Int) ≤ ((i : Nat) : Int) - 1 ∧ ((i : Nat) : Int) - 1 < ((List.length x0.2.2 : Nat) : Int)] gamOK hT h (by kernel_rfl) ⟨trivial, hint_bool (h2), hint_bool (decide_eq_true h4), ⟨by first | omega | (simp only [lsA]; omega) | (simp <;> omega), by first | omega | (simp only [lsA]; omega) | (simp <;> omega)⟩, (by refine ⟨?_, ?_⟩ <;> (first | omega | (simp only [lsA]; omega) | (simp <;> omega))), trivial⟩ fun a w h => then_normal ?_
    refine at_test (decide ((x0.2.2.getD i 0) ≤ (x0.2.2.getD ((((i : Nat) : Int) - 1).toNat) 0))) h (by kernel_rfl) (fun h5 => ?_) (fun h5 => ?_)
    ·replace h5 : (x0.2.2.getD i 0) ≤ (x0.2.2.getD ((((i : Nat) : Int) - 1).toNat) 0) := of_decide_eq_true h5
     refine wp_seq ?_
     refine at_regq [] { ts := [1, 2, 6, 7, 8, 17, 18, 19, 20, 21, 22, 23, 24, 25, 26, 27, 28], os := [1] } [] gamOK hT h (by kernel_rfl) trivial fun a w h => then_normal (wp_ret (in_ret (then_ret ?_)))
     have hs6 : (allN (grpP x0.2.2) (List.length x0.2.2)) = false := by exact allN_at (i := i) (by omega) (by exact grp_f (by omega))
     refine then_ret (in_ret (then_ret ?_))
     exact at_return (false, ()) [] h (by kernel_rfl) trivial (congrArg (fun z => (z, ())) (show (false) = validGroup x0 from by first | rfl | (unfold validGroup; rw [if_neg (neT hs6)])))
    ·replace h5 : ¬ ((x0.2.2.getD i 0) ≤ (x0.2.2.getD ((((i : Nat) : Int) - 1).toNat) 0)) := of_decide_eq_false h5
     refine wp_skip (in_normal (then_normal ?_))
     refine at_regq [{ nw := true }] { ts := [1, 2, 6, 7, 8, 17, 18, 19, 20, 21, 22, 23, 24, 25, 26, 27, 28], os := [1] } [I64 (((i : Nat) : Int) + 1)] gamOK hT h (by kernel_rfl) ⟨⟨by first | omega | (simp only [lsA]; omega) | (simp <;> omega), by first | omega | (simp only [lsA]; omega) | (simp <;> omega)⟩, trivial⟩ fun a w h => ?_
     replace h := at_out (σ' := ⟨[(1, aP 1 0), (2, aB false), (6, aF (.int 3) x0.2.2), (7, aI ((List.length x0.2.2 : Nat) : Int)), (8, aI (((i : Nat) : Int) + 1))], [(1, oX 26 [cI x0.1, cI x0.2.1, .ro (.int 3) x0.2.2])]⟩) { ts := [1, 2, 6, 7, 8], os := [1] } h (by kernel_rfl)
     exact ⟨i + 1, at_eq h (st_congr1 (fun (d0 : Int) => (⟨[(1, aP 1 0), (2, aB false), (6, aF (.int 3) x0.2.2), (7, aI ((List.length x0.2.2 : Nat) : Int)), (8, aI d0)], [(1, oX 26 [cI x0.1, cI x0.2.1, .ro (.int 3) x0.2.2])]⟩ : St)) (show (((i : Nat) : Int) + 1 : Int) = (((i + 1) : Nat) : Int) from by first | with_reducible rfl | (omega) | rfl)), (by exact ⟨by omega, allN_succ hok0.2 (by exact grp_t (by omega) (by omega))⟩), (by omega)⟩
   ·refine at_regq [{}, {}, { hint := some (aB false) }, {}, {}, { hint := some (aB false) }] { ts := [1, 2, 6, 7, 8, 17, 18, 19, 20, 21, 22, 23, 24, 25, 26, 27, 28, 29], os := [1] } [True, (AV.p (.c (.v (.bool (!(inR (x0.2.2.getD i 0) 0 7))))) = AV.p (.c (.v (.bool false)))), (AV.p (.c (.v (.bool (decide (((i : Nat) : Int) > 0))))) = AV.p (.c (.v (.bool false))))] gamOK hT h (by kernel_rfl) ⟨trivial, hint_bool (h2), hint_bool (decide_eq_false h4), trivial⟩ fun a w h => then_normal ?_
    refine at_test false h (by kernel_rfl) (fun hh => nomatch hh) (fun hh => ?_)
    refine wp_skip (in_normal (then_normal ?_))
    refine at_regq [{ nw := true }] { ts := [1, 2, 6, 7, 8, 17, 18, 19, 20, 21, 22, 23, 24, 25, 26, 27, 28], os := [1] } [I64 (((i : Nat) : Int) + 1)] gamOK hT h (by kernel_rfl) ⟨⟨by first | omega | (simp only [lsA]; omega) | (simp <;> omega), by first | omega | (simp only [lsA]; omega) | (simp <;> omega)⟩, trivial⟩ fun a w h => ?_
    replace h := at_out (σ' := ⟨[(1, aP 1 0), (2, aB false), (6, aF (.int 3) x0.2.2), (7, aI ((List.length x0.2.2 : Nat) : Int)), (8, aI (((i : Nat) : Int) + 1))], [(1, oX 26 [cI x0.1, cI x0.2.1, .ro (.int 3) x0.2.2])]⟩) { ts := [1, 2, 6, 7, 8], os := [1] } h (by kernel_rfl)
    exact ⟨i + 1, at_eq h (st_congr1 (fun (d0 : Int) => (⟨[(1, aP 1 0), (2, aB false), (6, aF (.int 3) x0.2.2), (7, aI ((List.length x0.2.2 : Nat) : Int)), (8, aI d0)], [(1, oX 26 [cI x0.1, cI x0.2.1, .ro (.int 3) x0.2.2])]⟩ : St)) (show (((i : Nat) : Int) + 1 : Int) = (((i + 1) : Nat) : Int) from by first | with_reducible rfl | (omega) | rfl)), (by exact ⟨by omega, allN_succ hok0.2 (by exact grp_t (by omega) (by omega))⟩), (by omega)⟩
 ·replace h1 : ¬ (((i : Nat) : Int) < ((List.length x0.2.2 : Nat) : Int)) := of_decide_eq_false h1
  refine wp_exit (then_exit ?_)
  have hs7 : (allN (grpP x0.2.2) (List.length x0.2.2)) = true := by exact allN_eq (by omega) hok0.1 hok0.2
  refine then_exit (in_hit (then_normal (wp_seq ?_)))
  rcases Bool.eq_false_or_eq_true ((isKey x0.1)) with h8 | h8
  ·have hvh8 := isKey_t h8
   refine at_regq [{}, {}, { hint := some (aB true) }] { ts := [2], os := [] } [True, (AV.p (.c (.v (.bool ((isKey x0.1))))) = AV.p (.c (.v (.bool true)))), True] gamOK hT h (by kernel_rfl) ⟨trivial, hint_bool (h8), trivial, trivial⟩ fun a w h => then_normal (wp_ret ?_)
   exact at_return ((inR x0.2.1 0 100000), ()) [] h (by kernel_rfl) trivial (congrArg (fun z => (z, ())) (show ((inR x0.2.1 0 100000)) = validGroup x0 from by first | rfl | (unfold validGroup; rw [if_pos hs7, if_pos h8])))
  ·refine at_regq [{}, {}, { hint := some (aB false) }] { ts := [2], os := [] } [True, (AV.p (.c (.v (.bool ((isKey x0.1))))) = AV.p (.c (.v (.bool false))))] gamOK hT h (by kernel_rfl) ⟨trivial, hint_bool (h8), trivial⟩ fun a w h => then_normal (wp_ret ?_)
   exact at_return (false, ()) [] h (by kernel_rfl) trivial (congrArg (fun z => (z, ())) (show (false) = validGroup x0 from by first | rfl | (unfold validGroup; rw [if_pos hs7, if_neg (neT h8)])))
theorem validGroup_t {g : T26} (h : validGroup g = true) : (1 ≤ g.1 ∧ g.1 ≤ 2147483646) ∧ (0 ≤ g.2.1 ∧ g.2.1 ≤ 100000) ∧ List.length g.2.2 ≤ 8 ∧ allN (grpP g.2.2) (List.length g.2.2) = true := by
 unfold validGroup at h
 split at h
 ·rename_i ha
  split at h
  ·rename_i hk
   exact ⟨isKey_t hk, inR_t h, grp_len ha, ha⟩
  ·cases h
 ·cases h

abbrev Q_spec_IsValidGroup := (fun (x0 : T26) => Sh.fit s26 x0)
def S_spec_IsValidGroup : Sum := { fid := 39, dom := [s26], cod := [(.bool 4)], dp := true, fz := false, pre := fun x => Q_spec_IsValidGroup x.1, g := fun x => ((validGroup x.1), ()) }
def S_spec_IsValidGroup_tab : List (Nat × Sum) := [(44, S_spec_l1In), (45, S_spec_IsValidKey)]
theorem S_spec_IsValidGroup_ok : FnOK Try.prog 39 S_spec_IsValidGroup := by
 refine at_enter 44 (fun x => ⟨[(0, aG [cI x.1.1, cI x.1.2.1, .ro (.int 3) x.1.2.2])], []⟩) Try.func39 rfl (by kernel_rfl) (fun x => rfl) ?_
 rintro w0 Z0 ⟨x0, u⟩ a w
 revert x0
 intro (x0 : T26) hpre hlens h
 replace hpre : Q_spec_IsValidGroup x0 := hpre
 have hT : TabOK Try.prog S_spec_IsValidGroup_tab := (.cons S_spec_l1In_ok (.cons S_spec_IsValidKey_ok .nil))
 have hf0 : Sh.fit s26 x0 := hpre
 have hn0_1 : List.length x0.2.2 ≤ 1073741824 := hf0.2.2.1
 refine wp_seq ?_
 refine at_regq [{ ids := [1] }] { ts := [1, 2], os := [1] } [] gamOK hT h (by kernel_rfl) trivial fun a w h => then_normal (wp_seq (wp_seq ?_))
 refine at_regq [] { ts := [1, 2, 3], os := [1] } [] gamOK hT h (by kernel_rfl) trivial fun a w h => then_normal (wp_block ?_)
 replace h := at_out (σ' := ⟨[(1, aP 1 0), (2, aB false), (3, aI 0)], [(1, oX 26 [cI x0.1, cI x0.2.1, .ro (.int 3) x0.2.2])]⟩) { ts := [1, 2, 3], os := [1] } h (by kernel_rfl)
 refine at_loop (fun i : Nat => (⟨[(1, aP 1 0), (2, aB false), (3, aI ((i : Nat) : Int))], [(1, oX 26 [cI x0.1, cI x0.2.1, .ro (.int 3) x0.2.2])]⟩ : St)) (fun i => (i ≤ (List.length x0.2.2) ∧ allN (grpP x0.2.2) i = true)) (fun i => (List.length x0.2.2) - i) (0) h (st_congr1 (fun (d0 : Int) => (⟨[(1, aP 1 0), (2, aB false), (3, aI d0)], [(1, oX 26 [cI x0.1, cI x0.2.1, .ro (.int 3) x0.2.2])]⟩ : St)) (show (0 : Int) = (((0) : Nat) : Int) from by first | with_reducible rfl | (rfl) | rfl)) (by exact ⟨Nat.zero_le _, rfl⟩) ?_
 intro i a w hok0 h
 refine wp_seq (wp_seq ?_)
 refine at_regq [] { ts := [1, 2, 3, 8], os := [1] } [] gamOK hT h (by kernel_rfl) trivial fun a w h => then_normal ?_
 refine at_test (decide (((i : Nat) : Int) < ((List.length x0.2.2 : Nat) : Int))) h (by kernel_rfl) (fun h1 => ?_) (fun h1 => ?_)
 ·replace h1 : ((i : Nat) : Int) < ((List.length x0.2.2 : Nat) : Int) := of_decide_eq_true h1
  refine wp_skip (then_normal (wp_seq (wp_block (wp_seq ?_))))
  rcases Bool.eq_false_or_eq_true (!(inR (x0.2.2.getD i 0) 0 7)) with h2 | h2
  ·have hzh2 : (inR (x0.2.2.getD i 0) 0 7) = false := notT h2
   have hvh2 := inR_f (notT h2)
   refine at_anyq [{}, {}, {}, {}, {}, {}, { hint := some (aB true) }, {}, {}, {}, {}, {}, {}, {}, {}, {}, {}, {}, {}, {}, {}, {}, {}, {}, {}] { ts := [1, 2, 3, 19, 20, 21, 22, 23, 24, 25, 26, 27, 28, 29, 30, 31, 32, 33, 34, 35], os := [1] } [(0 : Int) ≤ ((i : Nat) : Int) ∧ ((i : Nat) : Int) < ((List.length x0.2.2 : Nat) : Int), True, (AV.p (.c (.v (.bool (!(inR (x0.2.2.getD i 0) 0 7))))) = AV.p (.c (.v (.bool true))))] gamOK hT mixed h (by kernel_rfl) ⟨(by refine ⟨?_, ?_⟩ <;> (first | omega | (simp only [lsA]; omega) | (simp <;> omega))), trivial, hint_bool (h2), trivial⟩ fun a w h => then_normal ?_
   refine at_test true h (by kernel_rfl) (fun hh => ?_) (fun hh => nomatch hh)
   refine wp_seq ?_
   refine at_regq [] { ts := [1, 2, 3, 19, 20, 21, 22, 23, 24, 25, 26, 27, 28, 29, 30, 31, 32, 33, 34], os := [1] } [] gamOK hT h (by kernel_rfl) trivial fun a w h => then_normal (wp_ret (in_ret (then_ret ?_)))
   have hs3 : (allN (grpP x0.2.2) (List.length x0.2.2)) = false := by exact allN_at (i := i) (by omega) (by exact grp_f (by omega))
   refine then_ret (in_ret (then_ret ?_))
   exact at_return (false, ()) [] h (by kernel_rfl) trivial (congrArg (fun z => (z, ())) (show (false) = validGroup x0 from by first | rfl | (unfold validGroup; rw [if_neg (neT hs3)]; done) | (unfold validGroup; simp_all)))
  ·have hzh2 : (inR (x0.2.2.getD i 0) 0 7) = true := notF h2
   have hvh2 := inR_t (notF h2)
   by_cases h4 : ((i : Nat) : Int) > 0
   ·refine at_anyq [{}, {}, {}, {}, {}, {}, { hint := some (aB false) }, {}, {}, { hint := some (aB true) }, {}, {}, {}, {}, { nw := true }, {}, {}, {}, {}, {}, {}, {}, {}, {}, {}] { ts := [1, 2, 3, 19, 20, 21, 22, 23, 24, 25, 26, 27, 28, 29, 30, 31, 32, 33, 34, 35], os := [1] } [(0 : Int) ≤ ((i : Nat) : Int) ∧ ((i : Nat) : Int) < ((List.length x0.2.2 : Nat) : Int), True, (AV.p (.c (.v (.bool (!(inR (x0.2.2.getD i 0) 0 7))))) = AV.p (.c (.v (.bool false)))), (AV.p (.c (.v (.bool (decide (((i : Nat) : Int) > 0))))) = AV.p (.c (.v (.bool true)))), I64 (((i : Nat) : Int) - 1), (0 : Int) ≤ ((i : Nat) : Int) - 1 ∧ ((i : Nat) : Int) - 1 < ((List.length x0.2.2 : Nat) : Int), (0 : Int) ≤ ((i : Nat) : Int) ∧ ((i : Nat) : Int) < ((List.length x0.2.2 : Nat) : Int)] gamOK hT mixed h (by kernel_rfl) ⟨(by refine ⟨?_, ?_⟩ <;> (first | omega | (simp only [lsA]; omega) | (simp <;> omega))), trivial, hint_bool (h2), hint_bool (decide_eq_true h4), ⟨by first | omega | (simp only [lsA]; omega) | (simp <;> omega), by first | omega | (simp only [lsA]; omega) | (simp <;> omega)⟩, (by refine ⟨?_, ?_⟩ <;> (first | omega | (simp only [lsA]; omega) | (simp <;> omega))), (by refine ⟨?_, ?_⟩ <;> (first | omega | (simp only [lsA]; omega) | (simp <;> omega))), trivial⟩ fun a w h => then_normal ?_
    refine at_test (decide ((x0.2.2.getD ((((i : Nat) : Int) - 1).toNat) 0) ≥ (x0.2.2.getD i 0))) h (by kernel_rfl) (fun h5 => ?_) (fun h5 => ?_)
    ·replace h5 : (x0.2.2.getD ((((i : Nat) : Int) - 1).toNat) 0) ≥ (x0.2.2.getD i 0) := of_decide_eq_true h5
     refine wp_seq ?_
     refine at_regq [] { ts := [1, 2, 3, 19, 20, 21, 22, 23, 24, 25, 26, 27, 28, 29, 30, 31, 32, 33, 34], os := [1] } [] gamOK hT h (by kernel_rfl) trivial fun a w h => then_normal (wp_ret (in_ret (then_ret ?_)))
     have hs6 : (allN (grpP x0.2.2) (List.length x0.2.2)) = false := by exact allN_at (i := i) (by omega) (by exact grp_f (by omega))
     refine then_ret (in_ret (then_ret ?_))
     exact at_return (false, ()) [] h (by kernel_rfl) trivial (congrArg (fun z => (z, ())) (show (false) = validGroup x0 from by first | rfl | (unfold validGroup; rw [if_neg (neT hs6)]; done) | (unfold validGroup; simp_all)))
    ·replace h5 : ¬ ((x0.2.2.getD ((((i : Nat) : Int) - 1).toNat) 0) ≥ (x0.2.2.getD i 0)) := of_decide_eq_false h5
     refine wp_skip (in_normal (then_normal ?_))
     refine at_regq [{}, { nw := true }] { ts := [1, 2, 3, 19, 20, 21, 22, 23, 24, 25, 26, 27, 28, 29, 30, 31, 32, 33, 34], os := [1] } [I64 (((i : Nat) : Int) + 1)] gamOK hT h (by kernel_rfl) ⟨⟨by first | omega | (simp only [lsA]; omega) | (simp <;> omega), by first | omega | (simp only [lsA]; omega) | (simp <;> omega)⟩, trivial⟩ fun a w h => ?_
     replace h := at_out (σ' := ⟨[(1, aP 1 0), (2, aB false), (3, aI (((i : Nat) : Int) + 1))], [(1, oX 26 [cI x0.1, cI x0.2.1, .ro (.int 3) x0.2.2])]⟩) { ts := [1, 2, 3], os := [1] } h (by kernel_rfl)
     exact ⟨i + 1, at_eq h (st_congr1 (fun (d0 : Int) => (⟨[(1, aP 1 0), (2, aB false), (3, aI d0)], [(1, oX 26 [cI x0.1, cI x0.2.1, .ro (.int 3) x0.2.2])]⟩ : St)) (show (((i : Nat) : Int) + 1 : Int) = (((i + 1) : Nat) : Int) from by first | with_reducible rfl | (omega) | rfl)), (by exact ⟨by omega, allN_succ hok0.2 (by exact grp_t (by omega) (by omega))⟩), (by omega)⟩
   ·refine at_anyq [{}, {}, {}, {}, {}, {}, { hint := some (aB false) }, {}, {}, { hint := some (aB false) }, {}, {}, {}, {}, {}, {}, {}, {}, {}, {}, {}, {}, {}, {}, {}] { ts := [1, 2, 3, 19, 20, 21, 22, 23, 24, 25, 26, 27, 28, 29, 30, 31, 32, 33, 34, 35], os := [1] } [(0 : Int) ≤ ((i : Nat) : Int) ∧ ((i : Nat) : Int) < ((List.length x0.2.2 : Nat) : Int), True, (AV.p (.c (.v (.bool (!(inR (x0.2.2.getD i 0) 0 7))))) = AV.p (.c (.v (.bool false)))), (AV.p (.c (.v (.bool (decide (((i : Nat) : Int) > 0))))) = AV.p (.c (.v (.bool false))))] gamOK hT mixed h (by kernel_rfl) ⟨(by refine ⟨?_, ?_⟩ <;> (first | omega | (simp only [lsA]; omega) | (simp <;> omega))), trivial, hint_bool (h2), hint_bool (decide_eq_false h4), trivial⟩ fun a w h => then_normal ?_
    refine at_test false h (by kernel_rfl) (fun hh => nomatch hh) (fun hh => ?_)
    refine wp_skip (in_normal (then_normal ?_))
    refine at_regq [{}, { nw := true }] { ts := [1, 2, 3, 19, 20, 21, 22, 23, 24, 25, 26, 27, 28, 29, 30, 31, 32, 33, 34], os := [1] } [I64 (((i : Nat) : Int) + 1)] gamOK hT h (by kernel_rfl) ⟨⟨by first | omega | (simp only [lsA]; omega) | (simp <;> omega), by first | omega | (simp only [lsA]; omega) | (simp <;> omega)⟩, trivial⟩ fun a w h => ?_
    replace h := at_out (σ' := ⟨[(1, aP 1 0), (2, aB false), (3, aI (((i : Nat) : Int) + 1))], [(1, oX 26 [cI x0.1, cI x0.2.1, .ro (.int 3) x0.2.2])]⟩) { ts := [1, 2, 3], os := [1] } h (by kernel_rfl)
    exact ⟨i + 1, at_eq h (st_congr1 (fun (d0 : Int) => (⟨[(1, aP 1 0), (2, aB false), (3, aI d0)], [(1, oX 26 [cI x0.1, cI x0.2.1, .ro (.int 3) x0.2.2])]⟩ : St)) (show (((i : Nat) : Int) + 1 : Int) = (((i + 1) : Nat) : Int) from by first | with_reducible rfl | (omega) | rfl)), (by exact ⟨by omega, allN_succ hok0.2 (by exact grp_t (by omega) (by omega))⟩), (by omega)⟩
 ·replace h1 : ¬ (((i : Nat) : Int) < ((List.length x0.2.2 : Nat) : Int)) := of_decide_eq_false h1
  refine wp_exit (then_exit ?_)
  have hs7 : (allN (grpP x0.2.2) (List.length x0.2.2)) = true := by exact allN_eq (by omega) hok0.1 hok0.2
  refine then_exit (in_hit (then_normal (wp_seq ?_)))
  rcases Bool.eq_false_or_eq_true ((isKey x0.1)) with h8 | h8
  ·have hvh8 := isKey_t h8
   refine at_regq [{}, {}, { hint := some (aB true) }] { ts := [2], os := [] } [True, (AV.p (.c (.v (.bool ((isKey x0.1))))) = AV.p (.c (.v (.bool true)))), True] gamOK hT h (by kernel_rfl) ⟨trivial, hint_bool (h8), trivial, trivial⟩ fun a w h => then_normal (wp_ret ?_)
   exact at_return ((inR x0.2.1 0 100000), ()) [] h (by kernel_rfl) trivial (congrArg (fun z => (z, ())) (show ((inR x0.2.1 0 100000)) = validGroup x0 from by first | rfl | (unfold validGroup; rw [if_pos hs7, if_pos h8]; done) | (unfold validGroup; simp_all)))
  ·refine at_regq [{}, {}, { hint := some (aB false) }] { ts := [2], os := [] } [True, (AV.p (.c (.v (.bool ((isKey x0.1))))) = AV.p (.c (.v (.bool false))))] gamOK hT h (by kernel_rfl) ⟨trivial, hint_bool (h8), trivial⟩ fun a w h => then_normal (wp_ret ?_)
   exact at_return (false, ()) [] h (by kernel_rfl) trivial (congrArg (fun z => (z, ())) (show (false) = validGroup x0 from by first | rfl | (unfold validGroup; rw [if_pos hs7, if_neg (neT h8)]; done) | (unfold validGroup; simp_all)))

abbrev Q__impl_Group_clone := (fun (x0 : T26) => Sh.fit s26 x0)
def S__impl_Group_clone : Sum := { fid := 16, dom := [s26], cod := [s26], dp := true, fz := false, pre := fun x => Q__impl_Group_clone x.1, g := fun x => (((idD s26) x.1), ()) }
def S__impl_Group_clone_tab : List (Nat × Sum) := [(31, S_slices_Clone_S_int_int_)]
theorem S__impl_Group_clone_ok : FnOK Try.prog 16 S__impl_Group_clone := by
 refine at_enter 8 (fun x => ⟨[(0, aG [cI x.1.1, cI x.1.2.1, .ro (.int 3) x.1.2.2])], []⟩) Try.func16 rfl (by kernel_rfl) (fun x => rfl) ?_
 rintro w0 Z0 ⟨x0, u⟩ a w
 revert x0
 intro (x0 : T26) hpre hlens h
 replace hpre : Q__impl_Group_clone x0 := hpre
 have hT : TabOK Try.prog S__impl_Group_clone_tab := (.cons S_slices_Clone_S_int_int__ok .nil)
 have hf0 : Sh.fit s26 x0 := hpre
 have hn0_1 : List.length x0.2.2 ≤ 1073741824 := hf0.2.2.1
 refine wp_seq ?_
 refine at_regq [{ ids := [1] }, { ids := [2] }] { ts := [1, 2], os := [1, 2] } [] gamOK hT h (by kernel_rfl) trivial fun a w h => then_normal (wp_seq ?_)
 refine at_regq [{}, {}, { ids := [3] }] { ts := [1, 2], os := [1, 2, 3] } [(lenOK (α := Int)) x0.2.2] gamOK hT h (by kernel_rfl) ⟨(by first | assumption | trivial | (first | omega | (simp only [lsA]; omega) | (simp <;> omega))), trivial⟩ fun a w h => then_normal (wp_seq ?_)
 refine at_regq [] { ts := [2], os := [2, 3] } [] gamOK hT h (by kernel_rfl) trivial fun a w h => then_normal (wp_ret ?_)
 exact at_return (x0, ()) [] h (by kernel_rfl) trivial (congrArg (fun z => (z, ())) (show (x0) = (idD s26) x0 from by rfl))

abbrev Q_spec_l27Copy := (fun (x0 : T26) => Sh.fit s26 x0)
def S_spec_l27Copy : Sum := { fid := 40, dom := [s26], cod := [s26], dp := true, fz := false, pre := fun x => Q_spec_l27Copy x.1, g := fun x => (((idD s26) x.1), ()) }
def S_spec_l27Copy_tab : List (Nat × Sum) := []
theorem S_spec_l27Copy_ok : FnOK Try.prog 40 S_spec_l27Copy := by
 refine at_enter 11 (fun x => ⟨[(0, aG [cI x.1.1, cI x.1.2.1, .ro (.int 3) x.1.2.2])], []⟩) Try.func40 rfl (by kernel_rfl) (fun x => rfl) ?_
 rintro w0 Z0 ⟨x0, u⟩ a w
 revert x0
 intro (x0 : T26) hpre hlens h
 replace hpre : Q_spec_l27Copy x0 := hpre
 have hT : TabOK Try.prog S_spec_l27Copy_tab := .nil
 have hf0 : Sh.fit s26 x0 := hpre
 have hn0_1 : List.length x0.2.2 ≤ 1073741824 := hf0.2.2.1
 refine wp_seq ?_
 refine at_regq [{ ids := [1] }, { ids := [2] }] { ts := [1, 2], os := [1, 2] } [] gamOK hT h (by kernel_rfl) trivial fun a w h => then_normal (wp_seq ?_)
 refine at_regq [{}, { ids := [3] }] { ts := [1, 2, 3], os := [1, 2, 3] } [] gamOK hT h (by kernel_rfl) trivial fun a w h => then_normal (wp_seq ?_)
 refine at_regq [{ ids := [4] }, {}, {}, { ids := [5] }] { ts := [2, 3], os := [2, 3, 5] } [(List.length ([] : List Int) + List.length x0.2.2) * 8 ≤ 140737488355328] gamOK hT h (by kernel_rfl) ⟨(by first | omega | (simp only [lsA]; omega) | (simp <;> omega)), trivial⟩ fun a w h => then_normal (wp_seq ?_)
 refine at_regq [] { ts := [2], os := [2, 5] } [] gamOK hT h (by kernel_rfl) trivial fun a w h => then_normal (wp_ret ?_)
 exact at_return ((x0.1, (x0.2.1, (([] : List Int) ++ x0.2.2))), ()) [] h (by kernel_rfl) trivial (congrArg (fun z => (z, ())) (show ((x0.1, (x0.2.1, (([] : List Int) ++ x0.2.2)))) = (idD s26) x0 from by rfl))

def grpChanged (x0 : T26) (x1 : (List Int)) : T26 × Bool := (if (validGroup (x0.1, (x0.2.1 + 1, x1))) = true then ((x0.1, (x0.2.1 + 1, x1)), true) else (x0, false))
abbrev Q__impl_Group_changed := (fun (x0 : T26) (x1 : (List Int)) => Sh.fit s26 x0 ∧ Sh.fit s24 x1 ∧ (0 ≤ x0.2.1 ∧ x0.2.1 ≤ 100000))
def S__impl_Group_changed : Sum := { fid := 18, dom := [s26, s24], cod := [s26, (.bool 4)], dp := true, fz := false, pre := fun x => Q__impl_Group_changed x.1 x.2.1, g := fun x => ((grpChanged x.1 x.2.1).1, ((grpChanged x.1 x.2.1).2, ())), kinds := [.rd, .tk], upd := fun x => (x.1, (x.2.1, ())) }
def S__impl_Group_changed_tab : List (Nat × Sum) := [(8, S_impl_IsValidGroup), (16, S__impl_Group_clone)]
theorem S__impl_Group_changed_ok : FnOK Try.prog 18 S__impl_Group_changed := by
 refine at_enterI 20 [1] [] (fun us x => ⟨[(0, aG [cI x.1.1, cI x.1.2.1, .ro (.int 3) x.1.2.2]), (1, aS 1)], [(1, oR (.int 3) x.2.1)]⟩) Try.func18 rfl (by kernel_rfl) (fun us x => rfl) ?_
 rintro w0 Z0 us ⟨x0, x1, u⟩ L a w
 revert x0 x1
 intro (x0 : T26) (x1 : (List Int)) hio hpre hlens h
 replace h : At w0 Z0 L 20 ⟨[(0, aG [cI x0.1, cI x0.2.1, .ro (.int 3) x0.2.2]), (1, aS 1)], [(1, oR (.int 3) x1)]⟩ a w := h
 replace hpre : Q__impl_Group_changed x0 x1 := hpre
 have hT : TabOK Try.prog S__impl_Group_changed_tab := (.cons S_impl_IsValidGroup_ok (.cons S__impl_Group_clone_ok .nil))
 obtain ⟨hf0, hf1, hpx⟩ := hpre
 have hn0_1 : List.length x0.2.2 ≤ 1073741824 := hf0.2.2.1
 have hn1_2 : List.length x1 ≤ 1073741824 := hf1.1
 refine wp_seq ?_
 refine at_regq [{ ids := [2] }, { ids := [3] }] { ts := [1, 2, 4, 5], os := [1, 2, 3] } [] gamOK hT h (by kernel_rfl) trivial fun a w h => then_normal (wp_seq ?_)
 refine at_regq [{}, {}, {}, {}, { nw := true }, {}, {}, { ids := [4] }] { ts := [2, 4, 5, 6], os := [1, 2, 3, 4] } [I64 (x0.2.1 + 1)] gamOK hT h (by kernel_rfl) ⟨⟨by first | omega | (simp only [lsA]; omega) | (simp <;> omega), by first | omega | (simp only [lsA]; omega) | (simp <;> omega)⟩, trivial⟩ fun a w h => then_normal (wp_seq (wp_seq ?_))
 refine at_regq [] { ts := [2, 4, 5, 6, 16], os := [1, 2, 3, 4] } [Q_impl_IsValidGroup (x0.1, (x0.2.1 + 1, x1))] gamOK hT h (by kernel_rfl) ⟨(by exact ⟨hf0.1, ⟨trivial, hf1⟩⟩), trivial⟩ fun a w h => then_normal ?_
 refine at_test (!(validGroup (x0.1, (x0.2.1 + 1, x1)))) h (by kernel_rfl) (fun h1 => ?_) (fun h1 => ?_)
 ·replace h1 : (validGroup (x0.1, (x0.2.1 + 1, x1))) = false := notT h1
  refine wp_seq ?_
  refine at_regq [{}, { ids := [5] }] { ts := [4, 5, 6], os := [1, 3, 4, 5] } [Q__impl_Group_clone x0] gamOK hT h (by kernel_rfl) ⟨(by exact hf0), trivial⟩ fun a w h => then_normal (wp_ret (then_ret ?_))
  exact at_returnI (S := S__impl_Group_changed) (x := (x0, x1, ())) [1] [] (x0, (x1, ())) (some (x0, (false, ()))) [] hio h (by kernel_rfl) trivial (by first | rfl | (show (x0, (x1, ())) = (x0, (x1, ())))) (fun z e => (Option.some.inj e) ▸ (congrArg (fun z => (z.1, z.2, ())) (show ((x0, false)) = grpChanged x0 x1 from by first | rfl | (unfold grpChanged; rw [if_neg (neT h1)]))))
 ·replace h1 : (validGroup (x0.1, (x0.2.1 + 1, x1))) = true := notF h1
  have hvh1 := validGroup_t h1
  refine wp_skip (then_normal (wp_seq ?_))
  refine at_regq [] { ts := [4, 5], os := [1, 3] } [] gamOK hT h (by kernel_rfl) trivial fun a w h => then_normal (wp_ret ?_)
  exact at_returnI (S := S__impl_Group_changed) (x := (x0, x1, ())) [1] [] (x0, (x1, ())) (some ((x0.1, (x0.2.1 + 1, x1)), (true, ()))) [] hio h (by kernel_rfl) trivial (by first | rfl | (show (x0, (x1, ())) = (x0, (x1, ())))) (fun z e => (Option.some.inj e) ▸ (congrArg (fun z => (z.1, z.2, ())) (show (((x0.1, (x0.2.1 + 1, x1)), true)) = grpChanged x0 x1 from by first | rfl | (unfold grpChanged; rw [if_pos h1]))))

def D_impl_JoinGroup (x0 : T26) (x1 : Int) : T26 × Bool := (if (validGroup x0) = true then (if (D_slices_BinarySearch_S_int_int_ x0.2.2 x1).2 = true then (x0, false) else ((grpChanged x0 (D_slices_Insert_S_int_int_ x0.2.2 (D_slices_BinarySearch_S_int_int_ x0.2.2 x1).1 ([x1]))).1, (grpChanged x0 (D_slices_Insert_S_int_int_ x0.2.2 (D_slices_BinarySearch_S_int_int_ x0.2.2 x1).1 ([x1]))).2)) else (x0, false))
abbrev Q_impl_JoinGroup := (fun (x0 : T26) (x1 : Int) => Sh.fit s26 x0)
def S_impl_JoinGroup : Sum := { fid := 7, dom := [s26, (.int 3)], cod := [s26, (.bool 4)], dp := true, fz := false, pre := fun x => Q_impl_JoinGroup x.1 x.2.1, g := fun x => ((D_impl_JoinGroup x.1 x.2.1).1, ((D_impl_JoinGroup x.1 x.2.1).2, ())) }
def S_impl_JoinGroup_tab : List (Nat × Sum) := [(16, S__impl_Group_clone), (17, S_slices_BinarySearch_S_int_int_), (8, S_impl_IsValidGroup), (19, S_slices_Insert_S_int_int_), (18, S__impl_Group_changed)]
theorem S_impl_JoinGroup_ok : FnOK Try.prog 7 S_impl_JoinGroup := by
 refine at_enter 35 (fun x => ⟨[(0, aG [cI x.1.1, cI x.1.2.1, .ro (.int 3) x.1.2.2]), (1, aI x.2.1)], []⟩) Try.func7 rfl (by kernel_rfl) (fun x => rfl) ?_
 rintro w0 Z0 ⟨x0, x1, u⟩ a w
 revert x0 x1
 intro (x0 : T26) (x1 : Int) hpre hlens h
 replace hpre : Q_impl_JoinGroup x0 x1 := hpre
 have hT : TabOK Try.prog S_impl_JoinGroup_tab := (.cons S__impl_Group_clone_ok (.cons S_slices_BinarySearch_S_int_int__ok (.cons S_impl_IsValidGroup_ok (.cons S_slices_Insert_S_int_int__ok (.cons S__impl_Group_changed_ok .nil)))))
 have hf0 : Sh.fit s26 x0 := hpre
 have hn0_1 : List.length x0.2.2 ≤ 1073741824 := hf0.2.2.1
 refine wp_seq ?_
 refine at_regq [{ ids := [1] }, { ids := [2] }] { ts := [1, 2, 4, 5], os := [1, 2] } [] gamOK hT h (by kernel_rfl) trivial fun a w h => then_normal (wp_seq ?_)
 refine at_regq [{}, { ids := [3] }, { ids := [4] }] { ts := [1, 2, 4, 5, 6], os := [1, 2, 3, 4] } [Q__impl_Group_clone x0] gamOK hT h (by kernel_rfl) ⟨(by exact hf0), trivial⟩ fun a w h => then_normal (wp_seq ?_)
 refine at_regq [] { ts := [1, 2, 4, 5, 6, 7, 8], os := [1, 2, 3, 4] } [Q_slices_BinarySearch_S_int_int_ x0.2.2 x1] gamOK hT h (by kernel_rfl) ⟨(by exact hf0.2.2), trivial⟩ fun a w h => then_normal (wp_seq (wp_seq ?_))
 rcases Bool.eq_false_or_eq_true (!(validGroup x0)) with h1 | h1
 ·have hzh1 : (validGroup x0) = false := notT h1
  refine at_regq [{}, {}, { hint := some (aB true) }] { ts := [1, 2, 4, 5, 6, 7, 23], os := [1, 2, 3, 4] } [Q_impl_IsValidGroup x0, (AV.p (.c (.v (.bool (!(validGroup x0))))) = AV.p (.c (.v (.bool true))))] gamOK hT h (by kernel_rfl) ⟨(by exact hf0), hint_bool (h1), trivial⟩ fun a w h => then_normal ?_
  refine at_test true h (by kernel_rfl) (fun hh => ?_) (fun hh => nomatch hh)
  refine wp_seq ?_
  refine at_regq [] { ts := [1, 2, 4, 5, 6, 7], os := [1, 2, 3, 4] } [] gamOK hT h (by kernel_rfl) trivial fun a w h => then_normal (wp_ret (then_ret ?_))
  exact at_return (x0, (false, ())) [] h (by kernel_rfl) trivial (congrArg (fun z => (z.1, z.2, ())) (show ((x0, false)) = D_impl_JoinGroup x0 x1 from by first | rfl | (unfold D_impl_JoinGroup; rw [if_neg (neT (notT h1))])))
 ·have hzh1 : (validGroup x0) = true := notF h1
  have hvh1 := validGroup_t (notF h1)
  refine at_regq [{}, {}, { hint := some (aB false) }] { ts := [1, 2, 4, 5, 6, 7, 23], os := [1, 2, 3, 4] } [Q_impl_IsValidGroup x0, (AV.p (.c (.v (.bool (!(validGroup x0))))) = AV.p (.c (.v (.bool false))))] gamOK hT h (by kernel_rfl) ⟨(by exact hf0), hint_bool (h1), trivial⟩ fun a w h => then_normal ?_
  refine at_test ((D_slices_BinarySearch_S_int_int_ x0.2.2 x1).2) h (by kernel_rfl) (fun h2 => ?_) (fun h2 => ?_)
  ·have hbs := bs_fact x0.2.2 x1
   have hbt := bs_true (xs := x0.2.2) (v := x1) (by simpa using h2)
   refine wp_seq ?_
   refine at_regq [] { ts := [1, 2, 4, 5, 6, 7], os := [1, 2, 3, 4] } [] gamOK hT h (by kernel_rfl) trivial fun a w h => then_normal (wp_ret (then_ret ?_))
   exact at_return (x0, (false, ())) [] h (by kernel_rfl) trivial (congrArg (fun z => (z.1, z.2, ())) (show ((x0, false)) = D_impl_JoinGroup x0 x1 from by first | rfl | (unfold D_impl_JoinGroup; rw [if_pos (notF h1), if_pos h2])))
  ·have hbs := bs_fact x0.2.2 x1
   refine wp_skip (then_normal (wp_seq ?_))
   refine at_anyq [{}, {}, {}, {}, {}, { ids := [5] }, { ids := [6] }, { ids := [7] }, {}, {}, {}, {}] { ts := [4, 5], os := [2, 7] } [(fun (x0 : List Int) (x1 : Int) (x2 : List Int) => (0 ≤ x1 ∧ x1 ≤ ((List.length x0 : Nat) : Int)) ∧ 0 < List.length x2 ∧ (List.length x0 + List.length x2) * 8 ≤ 140737488355328) x0.2.2 (D_slices_BinarySearch_S_int_int_ x0.2.2 x1).1 ([x1]), Q__impl_Group_changed x0 (D_slices_Insert_S_int_int_ x0.2.2 (D_slices_BinarySearch_S_int_int_ x0.2.2 x1).1 ([x1]))] gamOK hT mixed h (by kernel_rfl) ⟨(by exact ⟨⟨by omega, by omega⟩, by simp, by simp; omega⟩), (by exact ⟨hf0, Sh.fit_len rfl (by unfold D_slices_Insert_S_int_int_ insAt; simp; omega), by omega⟩), trivial⟩ fun a w h => then_normal (wp_ret ?_)
   exact at_return ((grpChanged x0 (D_slices_Insert_S_int_int_ x0.2.2 (D_slices_BinarySearch_S_int_int_ x0.2.2 x1).1 ([x1]))).1, ((grpChanged x0 (D_slices_Insert_S_int_int_ x0.2.2 (D_slices_BinarySearch_S_int_int_ x0.2.2 x1).1 ([x1]))).2, ())) [] h (by kernel_rfl) trivial (congrArg (fun z => (z.1, z.2, ())) (show (((grpChanged x0 (D_slices_Insert_S_int_int_ x0.2.2 (D_slices_BinarySearch_S_int_int_ x0.2.2 x1).1 ([x1]))).1, (grpChanged x0 (D_slices_Insert_S_int_int_ x0.2.2 (D_slices_BinarySearch_S_int_int_ x0.2.2 x1).1 ([x1]))).2)) = D_impl_JoinGroup x0 x1 from by first | rfl | (unfold D_impl_JoinGroup; rw [if_pos (notF h1), if_neg (neT h2)])))

def D_impl_LeaveGroup (x0 : T26) (x1 : Int) : T26 × Bool := (if (validGroup x0) = true then (if (D_slices_BinarySearch_S_int_int_ x0.2.2 x1).2 = true then ((grpChanged x0 (D_slices_Delete_S_int_int_ x0.2.2 (D_slices_BinarySearch_S_int_int_ x0.2.2 x1).1 ((D_slices_BinarySearch_S_int_int_ x0.2.2 x1).1 + 1))).1, (grpChanged x0 (D_slices_Delete_S_int_int_ x0.2.2 (D_slices_BinarySearch_S_int_int_ x0.2.2 x1).1 ((D_slices_BinarySearch_S_int_int_ x0.2.2 x1).1 + 1))).2) else (x0, false)) else (x0, false))
abbrev Q_impl_LeaveGroup := (fun (x0 : T26) (x1 : Int) => Sh.fit s26 x0)
def S_impl_LeaveGroup : Sum := { fid := 10, dom := [s26, (.int 3)], cod := [s26, (.bool 4)], dp := true, fz := false, pre := fun x => Q_impl_LeaveGroup x.1 x.2.1, g := fun x => ((D_impl_LeaveGroup x.1 x.2.1).1, ((D_impl_LeaveGroup x.1 x.2.1).2, ())) }
def S_impl_LeaveGroup_tab : List (Nat × Sum) := [(16, S__impl_Group_clone), (17, S_slices_BinarySearch_S_int_int_), (8, S_impl_IsValidGroup), (22, S_slices_Delete_S_int_int_), (18, S__impl_Group_changed)]
theorem S_impl_LeaveGroup_ok : FnOK Try.prog 10 S_impl_LeaveGroup := by
 refine at_enter 36 (fun x => ⟨[(0, aG [cI x.1.1, cI x.1.2.1, .ro (.int 3) x.1.2.2]), (1, aI x.2.1)], []⟩) Try.func10 rfl (by kernel_rfl) (fun x => rfl) ?_
 rintro w0 Z0 ⟨x0, x1, u⟩ a w
 revert x0 x1
 intro (x0 : T26) (x1 : Int) hpre hlens h
 replace hpre : Q_impl_LeaveGroup x0 x1 := hpre
 have hT : TabOK Try.prog S_impl_LeaveGroup_tab := (.cons S__impl_Group_clone_ok (.cons S_slices_BinarySearch_S_int_int__ok (.cons S_impl_IsValidGroup_ok (.cons S_slices_Delete_S_int_int__ok (.cons S__impl_Group_changed_ok .nil)))))
 have hf0 : Sh.fit s26 x0 := hpre
 have hn0_1 : List.length x0.2.2 ≤ 1073741824 := hf0.2.2.1
 refine wp_seq ?_
 refine at_regq [{ ids := [1] }, { ids := [2] }] { ts := [1, 2, 4, 5], os := [1, 2] } [] gamOK hT h (by kernel_rfl) trivial fun a w h => then_normal (wp_seq ?_)
 refine at_regq [{}, { ids := [3] }, { ids := [4] }] { ts := [1, 2, 4, 5, 6], os := [1, 2, 3, 4] } [Q__impl_Group_clone x0] gamOK hT h (by kernel_rfl) ⟨(by exact hf0), trivial⟩ fun a w h => then_normal (wp_seq ?_)
 refine at_regq [] { ts := [2, 4, 5, 6, 7, 8], os := [1, 2, 3, 4] } [Q_slices_BinarySearch_S_int_int_ x0.2.2 x1] gamOK hT h (by kernel_rfl) ⟨(by exact hf0.2.2), trivial⟩ fun a w h => then_normal (wp_seq (wp_seq ?_))
 rcases Bool.eq_false_or_eq_true (!(validGroup x0)) with h1 | h1
 ·have hzh1 : (validGroup x0) = false := notT h1
  refine at_regq [{}, {}, { hint := some (aB true) }] { ts := [2, 4, 5, 6, 7, 24], os := [1, 2, 3, 4] } [Q_impl_IsValidGroup x0, (AV.p (.c (.v (.bool (!(validGroup x0))))) = AV.p (.c (.v (.bool true))))] gamOK hT h (by kernel_rfl) ⟨(by exact hf0), hint_bool (h1), trivial⟩ fun a w h => then_normal ?_
  refine at_test true h (by kernel_rfl) (fun hh => ?_) (fun hh => nomatch hh)
  refine wp_seq ?_
  refine at_regq [] { ts := [2, 4, 5, 6, 7], os := [1, 2, 3, 4] } [] gamOK hT h (by kernel_rfl) trivial fun a w h => then_normal (wp_ret (then_ret ?_))
  exact at_return (x0, (false, ())) [] h (by kernel_rfl) trivial (congrArg (fun z => (z.1, z.2, ())) (show ((x0, false)) = D_impl_LeaveGroup x0 x1 from by first | rfl | (unfold D_impl_LeaveGroup; rw [if_neg (neT (notT h1))])))
 ·have hzh1 : (validGroup x0) = true := notF h1
  have hvh1 := validGroup_t (notF h1)
  refine at_regq [{}, {}, { hint := some (aB false) }] { ts := [2, 4, 5, 6, 7, 24], os := [1, 2, 3, 4] } [Q_impl_IsValidGroup x0, (AV.p (.c (.v (.bool (!(validGroup x0))))) = AV.p (.c (.v (.bool false))))] gamOK hT h (by kernel_rfl) ⟨(by exact hf0), hint_bool (h1), trivial⟩ fun a w h => then_normal ?_
  refine at_test (!(D_slices_BinarySearch_S_int_int_ x0.2.2 x1).2) h (by kernel_rfl) (fun h2 => ?_) (fun h2 => ?_)
  ·replace h2 : (D_slices_BinarySearch_S_int_int_ x0.2.2 x1).2 = false := notT h2
   have hbs := bs_fact x0.2.2 x1
   refine wp_seq ?_
   refine at_regq [] { ts := [2, 4, 5, 6, 7], os := [1, 2, 3, 4] } [] gamOK hT h (by kernel_rfl) trivial fun a w h => then_normal (wp_ret (then_ret ?_))
   exact at_return (x0, (false, ())) [] h (by kernel_rfl) trivial (congrArg (fun z => (z.1, z.2, ())) (show ((x0, false)) = D_impl_LeaveGroup x0 x1 from by first | rfl | (unfold D_impl_LeaveGroup; rw [if_pos (notF h1), if_neg (neT h2)])))
  ·replace h2 : (D_slices_BinarySearch_S_int_int_ x0.2.2 x1).2 = true := notF h2
   have hbs := bs_fact x0.2.2 x1
   have hbt := bs_true (xs := x0.2.2) (v := x1) (by simpa using h2)
   refine wp_skip (then_normal (wp_seq ?_))
   refine at_anyq [{}, {}, {}, {}, {}, { nw := true }, { ids := [5] }, { ids := [6] }, {}, {}, {}, {}] { ts := [4, 5], os := [2, 6] } [I64 ((D_slices_BinarySearch_S_int_int_ x0.2.2 x1).1 + 1), (fun (x0 : List Int) (x1 x2 : Int) => 0 ≤ x1 ∧ x1 ≤ x2 ∧ x2 ≤ ((List.length x0 : Nat) : Int)) x0.2.2 (D_slices_BinarySearch_S_int_int_ x0.2.2 x1).1 ((D_slices_BinarySearch_S_int_int_ x0.2.2 x1).1 + 1), Q__impl_Group_changed x0 (D_slices_Delete_S_int_int_ x0.2.2 (D_slices_BinarySearch_S_int_int_ x0.2.2 x1).1 ((D_slices_BinarySearch_S_int_int_ x0.2.2 x1).1 + 1))] gamOK hT mixed h (by kernel_rfl) ⟨⟨by first | omega | (simp only [lsA]; omega) | (simp <;> omega), by first | omega | (simp only [lsA]; omega) | (simp <;> omega)⟩, (by exact ⟨by omega, by omega, by omega⟩), (by exact ⟨hf0, Sh.fit_len rfl (by unfold D_slices_Delete_S_int_int_ delAt; simp; omega), by omega⟩), trivial⟩ fun a w h => then_normal (wp_ret ?_)
   exact at_return ((grpChanged x0 (D_slices_Delete_S_int_int_ x0.2.2 (D_slices_BinarySearch_S_int_int_ x0.2.2 x1).1 ((D_slices_BinarySearch_S_int_int_ x0.2.2 x1).1 + 1))).1, ((grpChanged x0 (D_slices_Delete_S_int_int_ x0.2.2 (D_slices_BinarySearch_S_int_int_ x0.2.2 x1).1 ((D_slices_BinarySearch_S_int_int_ x0.2.2 x1).1 + 1))).2, ())) [] h (by kernel_rfl) trivial (congrArg (fun z => (z.1, z.2, ())) (show (((grpChanged x0 (D_slices_Delete_S_int_int_ x0.2.2 (D_slices_BinarySearch_S_int_int_ x0.2.2 x1).1 ((D_slices_BinarySearch_S_int_int_ x0.2.2 x1).1 + 1))).1, (grpChanged x0 (D_slices_Delete_S_int_int_ x0.2.2 (D_slices_BinarySearch_S_int_int_ x0.2.2 x1).1 ((D_slices_BinarySearch_S_int_int_ x0.2.2 x1).1 + 1))).2)) = D_impl_LeaveGroup x0 x1 from by first | rfl | (unfold D_impl_LeaveGroup; rw [if_pos (notF h1), if_pos h2])))

def D_spec_JoinGroup (x0 : T26) (x1 : Int) : T26 × Bool := (if (validGroup x0) = true then (if (validGroup (x0.1, (IntKind.i64.wrap (x0.2.1 + 1), (((([] : List Int) ++ (List.drop 0 (List.take (twL (fun e => decide (e < x1)) x0.2.2) x0.2.2))) ++ ([x1])) ++ (List.drop (twL (fun e => decide (e < x1)) x0.2.2) (List.take (List.length x0.2.2) x0.2.2)))))) = true then ((x0.1, (IntKind.i64.wrap (x0.2.1 + 1), (((([] : List Int) ++ (List.drop 0 (List.take (twL (fun e => decide (e < x1)) x0.2.2) x0.2.2))) ++ ([x1])) ++ (List.drop (twL (fun e => decide (e < x1)) x0.2.2) (List.take (List.length x0.2.2) x0.2.2))))), true) else (x0, false)) else (x0, false))
abbrev Q_spec_JoinGroup := (fun (x0 : T26) (x1 : Int) => Sh.fit s26 x0)
def S_spec_JoinGroup : Sum := { fid := 30, dom := [s26, (.int 3)], cod := [s26, (.bool 4)], dp := true, fz := false, pre := fun x => Q_spec_JoinGroup x.1 x.2.1, g := fun x => ((D_spec_JoinGroup x.1 x.2.1).1, ((D_spec_JoinGroup x.1 x.2.1).2, ())) }
def S_spec_JoinGroup_tab : List (Nat × Sum) := [(39, S_spec_IsValidGroup), (40, S_spec_l27Copy)]
theorem S_spec_JoinGroup_ok : FnOK Try.prog 30 S_spec_JoinGroup := by
 refine at_enter 56 (fun x => ⟨[(0, aG [cI x.1.1, cI x.1.2.1, .ro (.int 3) x.1.2.2]), (1, aI x.2.1)], []⟩) Try.func30 rfl (by kernel_rfl) (fun x => rfl) ?_
 rintro w0 Z0 ⟨x0, x1, u⟩ a w
 revert x0 x1
 intro (x0 : T26) (x1 : Int) hpre hlens h
 replace hpre : Q_spec_JoinGroup x0 x1 := hpre
 have hT : TabOK Try.prog S_spec_JoinGroup_tab := (.cons S_spec_IsValidGroup_ok (.cons S_spec_l27Copy_ok .nil))
 have hf0 : Sh.fit s26 x0 := hpre
 have hn0_1 : List.length x0.2.2 ≤ 1073741824 := hf0.2.2.1
 refine wp_seq ?_
 refine at_regq [{ ids := [1] }, { ids := [2] }] { ts := [1, 2, 4, 5], os := [1, 2] } [] gamOK hT h (by kernel_rfl) trivial fun a w h => then_normal (wp_seq ?_)
 refine at_regq [] { ts := [1, 2, 4, 5, 6], os := [1, 2] } [] gamOK hT h (by kernel_rfl) trivial fun a w h => then_normal (wp_seq (wp_block ?_))
 replace h := at_out (σ' := ⟨[(1, aI x1), (2, aP 1 0), (4, aP 2 0), (5, aB false), (6, aI 0)], [(1, oX 26 [cI x0.1, cI x0.2.1, .ro (.int 3) x0.2.2]), (2, oX 26 [cI 0, cI 0, cN])]⟩) { ts := [1, 2, 4, 5, 6], os := [1, 2] } h (by kernel_rfl)
 refine at_loop (fun i : Nat => (⟨[(1, aI x1), (2, aP 1 0), (4, aP 2 0), (5, aB false), (6, aI ((i : Nat) : Int))], [(1, oX 26 [cI x0.1, cI x0.2.1, .ro (.int 3) x0.2.2]), (2, oX 26 [cI 0, cI 0, cN])]⟩ : St)) (fun i => (i ≤ List.length x0.2.2 ∧ allTo1 (fun e => decide (e < x1)) x0.2.2 0 i)) (fun i => List.length x0.2.2 - i) (0) h (st_congr1 (fun (d0 : Int) => (⟨[(1, aI x1), (2, aP 1 0), (4, aP 2 0), (5, aB false), (6, aI d0)], [(1, oX 26 [cI x0.1, cI x0.2.1, .ro (.int 3) x0.2.2]), (2, oX 26 [cI 0, cI 0, cN])]⟩ : St)) (show (0 : Int) = (((0) : Nat) : Int) from by first | with_reducible rfl | (rfl) | rfl)) (by exact ⟨Nat.zero_le _, allTo1_zero⟩) ?_
 intro i a w hok0 h
 refine wp_seq (wp_seq ?_)
 by_cases h1 : ((i : Nat) : Int) < ((List.length x0.2.2 : Nat) : Int)
 ·refine at_regq [{}, {}, {}, {}, { hint := some (aB true) }] { ts := [1, 2, 4, 5, 6, 14, 15, 16, 17, 18, 19, 20, 21], os := [1, 2] } [(AV.p (.c (.v (.bool (decide (((i : Nat) : Int) < ((List.length x0.2.2 : Nat) : Int)))))) = AV.p (.c (.v (.bool true)))), (0 : Int) ≤ ((i : Nat) : Int) ∧ ((i : Nat) : Int) < ((List.length x0.2.2 : Nat) : Int)] gamOK hT h (by kernel_rfl) ⟨hint_bool (decide_eq_true h1), (by refine ⟨?_, ?_⟩ <;> (first | omega | (simp only [lsA]; omega) | (simp <;> omega))), trivial⟩ fun a w h => then_normal ?_
  refine at_test (decide ((x0.2.2.getD i 0) < x1)) h (by kernel_rfl) (fun h2 => ?_) (fun h2 => ?_)
  ·replace h2 : (x0.2.2.getD i 0) < x1 := of_decide_eq_true h2
   refine wp_skip (then_normal (wp_block ?_))
   refine at_regq [{}, { nw := true }] { ts := [1, 2, 4, 5, 6, 14, 15, 16, 17, 18, 19, 20], os := [1, 2] } [I64 (((i : Nat) : Int) + 1)] gamOK hT h (by kernel_rfl) ⟨⟨by first | omega | (simp only [lsA]; omega) | (simp <;> omega), by first | omega | (simp only [lsA]; omega) | (simp <;> omega)⟩, trivial⟩ fun a w h => in_normal ?_
   replace h := at_out (σ' := ⟨[(1, aI x1), (2, aP 1 0), (4, aP 2 0), (5, aB false), (6, aI (((i : Nat) : Int) + 1))], [(1, oX 26 [cI x0.1, cI x0.2.1, .ro (.int 3) x0.2.2]), (2, oX 26 [cI 0, cI 0, cN])]⟩) { ts := [1, 2, 4, 5, 6], os := [1, 2] } h (by kernel_rfl)
   exact ⟨i + 1, at_eq h (st_congr1 (fun (d0 : Int) => (⟨[(1, aI x1), (2, aP 1 0), (4, aP 2 0), (5, aB false), (6, aI d0)], [(1, oX 26 [cI x0.1, cI x0.2.1, .ro (.int 3) x0.2.2]), (2, oX 26 [cI 0, cI 0, cN])]⟩ : St)) (show (((i : Nat) : Int) + 1 : Int) = (((i + 1) : Nat) : Int) from by first | with_reducible rfl | (omega) | rfl)), (by exact ⟨by omega, allTo1_succ hok0.2 (decide_eq_true (by assumption))⟩), (by omega)⟩
  ·replace h2 : ¬ ((x0.2.2.getD i 0) < x1) := of_decide_eq_false h2
   refine wp_exit (then_exit ?_)
   replace h := at_out (σ' := ⟨[(1, aI x1), (2, aP 1 0), (4, aP 2 0), (5, aB false), (6, aI ((i : Nat) : Int))], [(1, oX 26 [cI x0.1, cI x0.2.1, .ro (.int 3) x0.2.2]), (2, oX 26 [cI 0, cI 0, cN])]⟩) { ts := [1, 2, 4, 5, 6], os := [1, 2] } h (by kernel_rfl)
   replace h := at_eq (σ' := ⟨[(1, aI x1), (2, aP 1 0), (4, aP 2 0), (5, aB false), (6, aI ((twL (fun e => decide (e < x1)) x0.2.2 : Nat) : Int))], [(1, oX 26 [cI x0.1, cI x0.2.1, .ro (.int 3) x0.2.2]), (2, oX 26 [cI 0, cI 0, cN])]⟩) h (st_congr1 (fun (d0 : Int) => (⟨[(1, aI x1), (2, aP 1 0), (4, aP 2 0), (5, aB false), (6, aI d0)], [(1, oX 26 [cI x0.1, cI x0.2.1, .ro (.int 3) x0.2.2]), (2, oX 26 [cI 0, cI 0, cN])]⟩ : St)) (show (((i : Nat) : Int) : Int) = ((twL (fun e => decide (e < x1)) x0.2.2 : Nat) : Int) from by first | with_reducible rfl | (rw [twL_eq (z := 0) hok0.1 hok0.2 (fun hk => by first | (exfalso; omega) | exact decide_eq_false (by assumption))]) | rfl))
   have htw := twL_le (fun e => decide (e < x1)) x0.2.2
   refine then_exit (in_hit (then_normal (wp_seq ?_)))
   refine at_regq [{}, {}, {}, {}, {}, {}, { ids := [3] }] { ts := [1, 2, 4, 5, 6, 7], os := [1, 2, 3] } [] gamOK hT h (by kernel_rfl) trivial fun a w h => then_normal (wp_seq ?_)
   refine at_anyq [{ ids := [4] }, {}, {}, {}, {}, { ids := [5] }, {}, { ids := [6] }, { ids := [7] }, {}, {}, {}, {}, { ids := [8] }, {}, {}] { ts := [2, 4, 5, 7], os := [1, 2, 3, 8] } [(0 : Int) ≤ 0 ∧ 0 ≤ ((twL (fun e => decide (e < x1)) x0.2.2 : Nat) : Int) ∧ ((twL (fun e => decide (e < x1)) x0.2.2 : Nat) : Int) ≤ ((List.length x0.2.2 : Nat) : Int), (List.length ([] : List Int) + List.length (List.drop 0 (List.take (twL (fun e => decide (e < x1)) x0.2.2) x0.2.2))) * 8 ≤ 140737488355328, (List.length (([] : List Int) ++ (List.drop 0 (List.take (twL (fun e => decide (e < x1)) x0.2.2) x0.2.2))) + List.length ([x1])) * 8 ≤ 140737488355328, (0 : Int) ≤ ((twL (fun e => decide (e < x1)) x0.2.2 : Nat) : Int) ∧ ((twL (fun e => decide (e < x1)) x0.2.2 : Nat) : Int) ≤ ((List.length x0.2.2 : Nat) : Int) ∧ ((List.length x0.2.2 : Nat) : Int) ≤ ((List.length x0.2.2 : Nat) : Int), (List.length ((([] : List Int) ++ (List.drop 0 (List.take (twL (fun e => decide (e < x1)) x0.2.2) x0.2.2))) ++ ([x1])) + List.length (List.drop (twL (fun e => decide (e < x1)) x0.2.2) (List.take (List.length x0.2.2) x0.2.2))) * 8 ≤ 140737488355328] gamOK hT mixed h (by kernel_rfl) ⟨(by refine ⟨?_, ?_, ?_⟩ <;> (first | omega | (simp only [lsA]; omega) | (simp <;> omega))), (by (have hL0 := (show List.length (List.drop 0 (List.take (twL (fun e => decide (e < x1)) x0.2.2) x0.2.2)) ≤ 1073741824 from ((Sh.fit_drop (Sh.fit_take hf0.2.2 (twL (fun e => decide (e < x1)) x0.2.2)) 0)).1); first | omega | (simp only [lsA]; omega) | (simp <;> omega))), (by first | omega | (simp only [lsA]; omega) | (simp <;> omega)), (by refine ⟨?_, ?_, ?_⟩ <;> (first | omega | (simp only [lsA]; omega) | (simp <;> omega))), (by (have hL0 := (show List.length (List.drop (twL (fun e => decide (e < x1)) x0.2.2) (List.take (List.length x0.2.2) x0.2.2)) ≤ 1073741824 from ((Sh.fit_drop (Sh.fit_take hf0.2.2 (List.length x0.2.2)) (twL (fun e => decide (e < x1)) x0.2.2))).1); first | omega | (simp only [lsA]; omega) | (simp <;> omega))), trivial⟩ fun a w h => then_normal (wp_seq (wp_seq ?_))
   rcases Bool.eq_false_or_eq_true (!(validGroup x0)) with h3 | h3
   ·have hzh3 : (validGroup x0) = false := notT h3
    refine at_regq [{}, {}, { hint := some (aB true) }] { ts := [2, 4, 5, 7, 52], os := [1, 2, 3, 8] } [Q_spec_IsValidGroup x0, (AV.p (.c (.v (.bool (!(validGroup x0))))) = AV.p (.c (.v (.bool true))))] gamOK hT h (by kernel_rfl) ⟨(by first | exact hf0 | exact ⟨trivial, trivial, Sh.fit_len rfl (by simp; omega)⟩), hint_bool (h3), trivial⟩ fun a w h => then_normal ?_
    refine at_test true h (by kernel_rfl) (fun hh => ?_) (fun hh => nomatch hh)
    refine wp_seq ?_
    refine at_regq [{}, { ids := [9] }] { ts := [4, 5, 7], os := [2, 3, 8, 9] } [Q_spec_l27Copy x0] gamOK hT h (by kernel_rfl) ⟨(by exact hf0), trivial⟩ fun a w h => then_normal (wp_ret (then_ret ?_))
    exact at_return (x0, (false, ())) [] h (by kernel_rfl) trivial (congrArg (fun z => (z.1, z.2, ())) (show ((x0, false)) = D_spec_JoinGroup x0 x1 from by first | rfl | (unfold D_spec_JoinGroup; rw [if_neg (neT (notT h3))])))
   ·have hzh3 : (validGroup x0) = true := notF h3
    have hvh3 := validGroup_t (notF h3)
    refine at_regq [{}, {}, { hint := some (aB false) }] { ts := [2, 4, 5, 7, 52], os := [1, 2, 3, 8] } [Q_spec_IsValidGroup x0, (AV.p (.c (.v (.bool (!(validGroup x0))))) = AV.p (.c (.v (.bool false)))), Q_spec_IsValidGroup (x0.1, (IntKind.i64.wrap (x0.2.1 + 1), (((([] : List Int) ++ (List.drop 0 (List.take (twL (fun e => decide (e < x1)) x0.2.2) x0.2.2))) ++ ([x1])) ++ (List.drop (twL (fun e => decide (e < x1)) x0.2.2) (List.take (List.length x0.2.2) x0.2.2)))))] gamOK hT h (by kernel_rfl) ⟨(by first | exact hf0 | exact ⟨trivial, trivial, Sh.fit_len rfl (by simp; omega)⟩), hint_bool (h3), (by first | exact hf0 | exact ⟨trivial, trivial, Sh.fit_len rfl (by simp; omega)⟩), trivial⟩ fun a w h => then_normal ?_
    refine at_test (!(validGroup (x0.1, (IntKind.i64.wrap (x0.2.1 + 1), (((([] : List Int) ++ (List.drop 0 (List.take (twL (fun e => decide (e < x1)) x0.2.2) x0.2.2))) ++ ([x1])) ++ (List.drop (twL (fun e => decide (e < x1)) x0.2.2) (List.take (List.length x0.2.2) x0.2.2))))))) h (by kernel_rfl) (fun h4 => ?_) (fun h4 => ?_)
    ·replace h4 : (validGroup (x0.1, (IntKind.i64.wrap (x0.2.1 + 1), (((([] : List Int) ++ (List.drop 0 (List.take (twL (fun e => decide (e < x1)) x0.2.2) x0.2.2))) ++ ([x1])) ++ (List.drop (twL (fun e => decide (e < x1)) x0.2.2) (List.take (List.length x0.2.2) x0.2.2)))))) = false := notT h4
     refine wp_seq ?_
     refine at_regq [{}, { ids := [9] }] { ts := [4, 5, 7], os := [2, 3, 8, 9] } [Q_spec_l27Copy x0] gamOK hT h (by kernel_rfl) ⟨(by exact hf0), trivial⟩ fun a w h => then_normal (wp_ret (then_ret ?_))
     exact at_return (x0, (false, ())) [] h (by kernel_rfl) trivial (congrArg (fun z => (z.1, z.2, ())) (show ((x0, false)) = D_spec_JoinGroup x0 x1 from by first | rfl | (unfold D_spec_JoinGroup; rw [if_pos (notF h3), if_neg (neT h4)])))
    ·replace h4 : (validGroup (x0.1, (IntKind.i64.wrap (x0.2.1 + 1), (((([] : List Int) ++ (List.drop 0 (List.take (twL (fun e => decide (e < x1)) x0.2.2) x0.2.2))) ++ ([x1])) ++ (List.drop (twL (fun e => decide (e < x1)) x0.2.2) (List.take (List.length x0.2.2) x0.2.2)))))) = true := notF h4
     have hvh4 := validGroup_t h4
     refine wp_skip (then_normal (wp_seq ?_))
     refine at_regq [] { ts := [4, 5], os := [2, 8] } [] gamOK hT h (by kernel_rfl) trivial fun a w h => then_normal (wp_ret ?_)
     exact at_return ((x0.1, (IntKind.i64.wrap (x0.2.1 + 1), (((([] : List Int) ++ (List.drop 0 (List.take (twL (fun e => decide (e < x1)) x0.2.2) x0.2.2))) ++ ([x1])) ++ (List.drop (twL (fun e => decide (e < x1)) x0.2.2) (List.take (List.length x0.2.2) x0.2.2))))), (true, ())) [] h (by kernel_rfl) trivial (congrArg (fun z => (z.1, z.2, ())) (show (((x0.1, (IntKind.i64.wrap (x0.2.1 + 1), (((([] : List Int) ++ (List.drop 0 (List.take (twL (fun e => decide (e < x1)) x0.2.2) x0.2.2))) ++ ([x1])) ++ (List.drop (twL (fun e => decide (e < x1)) x0.2.2) (List.take (List.length x0.2.2) x0.2.2))))), true)) = D_spec_JoinGroup x0 x1 from by first | rfl | (unfold D_spec_JoinGroup; rw [if_pos (notF h3), if_pos h4])))
 ·refine at_regq [{}, {}, {}, {}, { hint := some (aB false) }] { ts := [1, 2, 4, 5, 6, 14, 15, 16, 17, 18, 19, 20, 21], os := [1, 2] } [(AV.p (.c (.v (.bool (decide (((i : Nat) : Int) < ((List.length x0.2.2 : Nat) : Int)))))) = AV.p (.c (.v (.bool false))))] gamOK hT h (by kernel_rfl) ⟨hint_bool (decide_eq_false h1), trivial⟩ fun a w h => then_normal ?_
  refine at_test false h (by kernel_rfl) (fun hh => nomatch hh) (fun hh => ?_)
  refine wp_exit (then_exit ?_)
  replace h := at_out (σ' := ⟨[(1, aI x1), (2, aP 1 0), (4, aP 2 0), (5, aB false), (6, aI ((i : Nat) : Int))], [(1, oX 26 [cI x0.1, cI x0.2.1, .ro (.int 3) x0.2.2]), (2, oX 26 [cI 0, cI 0, cN])]⟩) { ts := [1, 2, 4, 5, 6], os := [1, 2] } h (by kernel_rfl)
  replace h := at_eq (σ' := ⟨[(1, aI x1), (2, aP 1 0), (4, aP 2 0), (5, aB false), (6, aI ((twL (fun e => decide (e < x1)) x0.2.2 : Nat) : Int))], [(1, oX 26 [cI x0.1, cI x0.2.1, .ro (.int 3) x0.2.2]), (2, oX 26 [cI 0, cI 0, cN])]⟩) h (st_congr1 (fun (d0 : Int) => (⟨[(1, aI x1), (2, aP 1 0), (4, aP 2 0), (5, aB false), (6, aI d0)], [(1, oX 26 [cI x0.1, cI x0.2.1, .ro (.int 3) x0.2.2]), (2, oX 26 [cI 0, cI 0, cN])]⟩ : St)) (show (((i : Nat) : Int) : Int) = ((twL (fun e => decide (e < x1)) x0.2.2 : Nat) : Int) from by first | with_reducible rfl | (rw [twL_eq (z := 0) hok0.1 hok0.2 (fun hk => by first | (exfalso; omega) | exact decide_eq_false (by assumption))]) | rfl))
  have htw := twL_le (fun e => decide (e < x1)) x0.2.2
  refine then_exit (in_hit (then_normal (wp_seq ?_)))
  refine at_regq [{}, {}, {}, {}, {}, {}, { ids := [3] }] { ts := [1, 2, 4, 5, 6, 7], os := [1, 2, 3] } [] gamOK hT h (by kernel_rfl) trivial fun a w h => then_normal (wp_seq ?_)
  refine at_anyq [{ ids := [4] }, {}, {}, {}, {}, { ids := [5] }, {}, { ids := [6] }, { ids := [7] }, {}, {}, {}, {}, { ids := [8] }, {}, {}] { ts := [2, 4, 5, 7], os := [1, 2, 3, 8] } [(0 : Int) ≤ 0 ∧ 0 ≤ ((twL (fun e => decide (e < x1)) x0.2.2 : Nat) : Int) ∧ ((twL (fun e => decide (e < x1)) x0.2.2 : Nat) : Int) ≤ ((List.length x0.2.2 : Nat) : Int), (List.length ([] : List Int) + List.length (List.drop 0 (List.take (twL (fun e => decide (e < x1)) x0.2.2) x0.2.2))) * 8 ≤ 140737488355328, (List.length (([] : List Int) ++ (List.drop 0 (List.take (twL (fun e => decide (e < x1)) x0.2.2) x0.2.2))) + List.length ([x1])) * 8 ≤ 140737488355328, (0 : Int) ≤ ((twL (fun e => decide (e < x1)) x0.2.2 : Nat) : Int) ∧ ((twL (fun e => decide (e < x1)) x0.2.2 : Nat) : Int) ≤ ((List.length x0.2.2 : Nat) : Int) ∧ ((List.length x0.2.2 : Nat) : Int) ≤ ((List.length x0.2.2 : Nat) : Int), (List.length ((([] : List Int) ++ (List.drop 0 (List.take (twL (fun e => decide (e < x1)) x0.2.2) x0.2.2))) ++ ([x1])) + List.length (List.drop (twL (fun e => decide (e < x1)) x0.2.2) (List.take (List.length x0.2.2) x0.2.2))) * 8 ≤ 140737488355328] gamOK hT mixed h (by kernel_rfl) ⟨(by refine ⟨?_, ?_, ?_⟩ <;> (first | omega | (simp only [lsA]; omega) | (simp <;> omega))), (by (have hL0 := (show List.length (List.drop 0 (List.take (twL (fun e => decide (e < x1)) x0.2.2) x0.2.2)) ≤ 1073741824 from ((Sh.fit_drop (Sh.fit_take hf0.2.2 (twL (fun e => decide (e < x1)) x0.2.2)) 0)).1); first | omega | (simp only [lsA]; omega) | (simp <;> omega))), (by first | omega | (simp only [lsA]; omega) | (simp <;> omega)), (by refine ⟨?_, ?_, ?_⟩ <;> (first | omega | (simp only [lsA]; omega) | (simp <;> omega))), (by (have hL0 := (show List.length (List.drop (twL (fun e => decide (e < x1)) x0.2.2) (List.take (List.length x0.2.2) x0.2.2)) ≤ 1073741824 from ((Sh.fit_drop (Sh.fit_take hf0.2.2 (List.length x0.2.2)) (twL (fun e => decide (e < x1)) x0.2.2))).1); first | omega | (simp only [lsA]; omega) | (simp <;> omega))), trivial⟩ fun a w h => then_normal (wp_seq (wp_seq ?_))
  rcases Bool.eq_false_or_eq_true (!(validGroup x0)) with h5 | h5
  ·have hzh5 : (validGroup x0) = false := notT h5
   refine at_regq [{}, {}, { hint := some (aB true) }] { ts := [2, 4, 5, 7, 52], os := [1, 2, 3, 8] } [Q_spec_IsValidGroup x0, (AV.p (.c (.v (.bool (!(validGroup x0))))) = AV.p (.c (.v (.bool true))))] gamOK hT h (by kernel_rfl) ⟨(by first | exact hf0 | exact ⟨trivial, trivial, Sh.fit_len rfl (by simp; omega)⟩), hint_bool (h5), trivial⟩ fun a w h => then_normal ?_
   refine at_test true h (by kernel_rfl) (fun hh => ?_) (fun hh => nomatch hh)
   refine wp_seq ?_
   refine at_regq [{}, { ids := [9] }] { ts := [4, 5, 7], os := [2, 3, 8, 9] } [Q_spec_l27Copy x0] gamOK hT h (by kernel_rfl) ⟨(by exact hf0), trivial⟩ fun a w h => then_normal (wp_ret (then_ret ?_))
   exact at_return (x0, (false, ())) [] h (by kernel_rfl) trivial (congrArg (fun z => (z.1, z.2, ())) (show ((x0, false)) = D_spec_JoinGroup x0 x1 from by first | rfl | (unfold D_spec_JoinGroup; rw [if_neg (neT (notT h5))])))
  ·have hzh5 : (validGroup x0) = true := notF h5
   have hvh5 := validGroup_t (notF h5)
   refine at_regq [{}, {}, { hint := some (aB false) }] { ts := [2, 4, 5, 7, 52], os := [1, 2, 3, 8] } [Q_spec_IsValidGroup x0, (AV.p (.c (.v (.bool (!(validGroup x0))))) = AV.p (.c (.v (.bool false)))), Q_spec_IsValidGroup (x0.1, (IntKind.i64.wrap (x0.2.1 + 1), (((([] : List Int) ++ (List.drop 0 (List.take (twL (fun e => decide (e < x1)) x0.2.2) x0.2.2))) ++ ([x1])) ++ (List.drop (twL (fun e => decide (e < x1)) x0.2.2) (List.take (List.length x0.2.2) x0.2.2)))))] gamOK hT h (by kernel_rfl) ⟨(by first | exact hf0 | exact ⟨trivial, trivial, Sh.fit_len rfl (by simp; omega)⟩), hint_bool (h5), (by first | exact hf0 | exact ⟨trivial, trivial, Sh.fit_len rfl (by simp; omega)⟩), trivial⟩ fun a w h => then_normal ?_
   refine at_test (!(validGroup (x0.1, (IntKind.i64.wrap (x0.2.1 + 1), (((([] : List Int) ++ (List.drop 0 (List.take (twL (fun e => decide (e < x1)) x0.2.2) x0.2.2))) ++ ([x1])) ++ (List.drop (twL (fun e => decide (e < x1)) x0.2.2) (List.take (List.length x0.2.2) x0.2.2))))))) h (by kernel_rfl) (fun h6 => ?_) (fun h6 => ?_)
   ·replace h6 : (validGroup (x0.1, (IntKind.i64.wrap (x0.2.1 + 1), (((([] : List Int) ++ (List.drop 0 (List.take (twL (fun e => decide (e < x1)) x0.2.2) x0.2.2))) ++ ([x1])) ++ (List.drop (twL (fun e => decide (e < x1)) x0.2.2) (List.take (List.length x0.2.2) x0.2.2)))))) = false := notT h6
    refine wp_seq ?_
    refine at_regq [{}, { ids := [9] }] { ts := [4, 5, 7], os := [2, 3, 8, 9] } [Q_spec_l27Copy x0] gamOK hT h (by kernel_rfl) ⟨(by exact hf0), trivial⟩ fun a w h => then_normal (wp_ret (then_ret ?_))
    exact at_return (x0, (false, ())) [] h (by kernel_rfl) trivial (congrArg (fun z => (z.1, z.2, ())) (show ((x0, false)) = D_spec_JoinGroup x0 x1 from by first | rfl | (unfold D_spec_JoinGroup; rw [if_pos (notF h5), if_neg (neT h6)])))
   ·replace h6 : (validGroup (x0.1, (IntKind.i64.wrap (x0.2.1 + 1), (((([] : List Int) ++ (List.drop 0 (List.take (twL (fun e => decide (e < x1)) x0.2.2) x0.2.2))) ++ ([x1])) ++ (List.drop (twL (fun e => decide (e < x1)) x0.2.2) (List.take (List.length x0.2.2) x0.2.2)))))) = true := notF h6
    have hvh6 := validGroup_t h6
    refine wp_skip (then_normal (wp_seq ?_))
    refine at_regq [] { ts := [4, 5], os := [2, 8] } [] gamOK hT h (by kernel_rfl) trivial fun a w h => then_normal (wp_ret ?_)
    exact at_return ((x0.1, (IntKind.i64.wrap (x0.2.1 + 1), (((([] : List Int) ++ (List.drop 0 (List.take (twL (fun e => decide (e < x1)) x0.2.2) x0.2.2))) ++ ([x1])) ++ (List.drop (twL (fun e => decide (e < x1)) x0.2.2) (List.take (List.length x0.2.2) x0.2.2))))), (true, ())) [] h (by kernel_rfl) trivial (congrArg (fun z => (z.1, z.2, ())) (show (((x0.1, (IntKind.i64.wrap (x0.2.1 + 1), (((([] : List Int) ++ (List.drop 0 (List.take (twL (fun e => decide (e < x1)) x0.2.2) x0.2.2))) ++ ([x1])) ++ (List.drop (twL (fun e => decide (e < x1)) x0.2.2) (List.take (List.length x0.2.2) x0.2.2))))), true)) = D_spec_JoinGroup x0 x1 from by first | rfl | (unfold D_spec_JoinGroup; rw [if_pos (notF h5), if_pos h6])))

def D_spec_LeaveGroup (x0 : T26) (x1 : Int) : T26 × Bool := (if (validGroup x0) = true then (if (validGroup (x0.1, (IntKind.i64.wrap (x0.2.1 + 1), (List.filter (fun e => !decide (e = x1)) x0.2.2)))) = true then (if ((List.length (List.filter (fun e => !decide (e = x1)) x0.2.2) : Nat) : Int) = ((List.length x0.2.2 : Nat) : Int) then (x0, false) else ((x0.1, (IntKind.i64.wrap (x0.2.1 + 1), (List.filter (fun e => !decide (e = x1)) x0.2.2))), true)) else (x0, false)) else (x0, false))
abbrev Q_spec_LeaveGroup := (fun (x0 : T26) (x1 : Int) => Sh.fit s26 x0)
def S_spec_LeaveGroup : Sum := { fid := 29, dom := [s26, (.int 3)], cod := [s26, (.bool 4)], dp := true, fz := false, pre := fun x => Q_spec_LeaveGroup x.1 x.2.1, g := fun x => ((D_spec_LeaveGroup x.1 x.2.1).1, ((D_spec_LeaveGroup x.1 x.2.1).2, ())) }
def S_spec_LeaveGroup_tab : List (Nat × Sum) := [(39, S_spec_IsValidGroup), (40, S_spec_l27Copy)]
theorem S_spec_LeaveGroup_ok : FnOK Try.prog 29 S_spec_LeaveGroup := by
 refine at_enter 58 (fun x => ⟨[(0, aG [cI x.1.1, cI x.1.2.1, .ro (.int 3) x.1.2.2]), (1, aI x.2.1)], []⟩) Try.func29 rfl (by kernel_rfl) (fun x => rfl) ?_
 rintro w0 Z0 ⟨x0, x1, u⟩ a w
 revert x0 x1
 intro (x0 : T26) (x1 : Int) hpre hlens h
 replace hpre : Q_spec_LeaveGroup x0 x1 := hpre
 have hT : TabOK Try.prog S_spec_LeaveGroup_tab := (.cons S_spec_IsValidGroup_ok (.cons S_spec_l27Copy_ok .nil))
 have hf0 : Sh.fit s26 x0 := hpre
 have hn0_1 : List.length x0.2.2 ≤ 1073741824 := hf0.2.2.1
 refine wp_seq ?_
 refine at_regq [{ ids := [1] }, { ids := [2] }] { ts := [1, 2, 4, 5], os := [1, 2] } [] gamOK hT h (by kernel_rfl) trivial fun a w h => then_normal (wp_seq ?_)
 refine at_regq [{}, {}, {}, {}, {}, {}, { ids := [3] }] { ts := [1, 2, 4, 5, 6], os := [1, 2, 3] } [] gamOK hT h (by kernel_rfl) trivial fun a w h => then_normal (wp_seq (wp_seq ?_))
 refine at_regq [] { ts := [1, 2, 4, 5, 6, 7], os := [1, 2, 3] } [] gamOK hT h (by kernel_rfl) trivial fun a w h => then_normal (wp_block ?_)
 replace h := at_out (σ' := ⟨[(1, aI x1), (2, aP 1 0), (4, aP 2 0), (5, aB false), (6, aP 3 0), (7, aI 0)], [(1, oX 26 [cI x0.1, cI x0.2.1, .ro (.int 3) x0.2.2]), (2, oX 26 [cI 0, cI 0, cN]), (3, oX 26 [cI x0.1, cI (IntKind.i64.wrap (x0.2.1 + 1)), .sl 4]), (4, oR (.int 3) ([] : List Int))]⟩) { mt := [⟨some 3, 2, 4, true, (.int 3)⟩], ts := [1, 2, 4, 5, 6, 7], os := [1, 2, 3, 4] } h (by kernel_rfl)
 refine at_loop (fun i : Nat => (⟨[(1, aI x1), (2, aP 1 0), (4, aP 2 0), (5, aB false), (6, aP 3 0), (7, aI ((i : Nat) : Int))], [(1, oX 26 [cI x0.1, cI x0.2.1, .ro (.int 3) x0.2.2]), (2, oX 26 [cI 0, cI 0, cN]), (3, oX 26 [cI x0.1, cI (IntKind.i64.wrap (x0.2.1 + 1)), .sl 4]), (4, oR (.int 3) (List.filter (fun e => !decide (e = x1)) (List.take i x0.2.2)))]⟩ : St)) (fun i => i ≤ List.length x0.2.2) (fun i => List.length x0.2.2 - i) (0) h (st_congr2 (fun (d0 : List Int) (d1 : Int) => (⟨[(1, aI x1), (2, aP 1 0), (4, aP 2 0), (5, aB false), (6, aP 3 0), (7, aI d1)], [(1, oX 26 [cI x0.1, cI x0.2.1, .ro (.int 3) x0.2.2]), (2, oX 26 [cI 0, cI 0, cN]), (3, oX 26 [cI x0.1, cI (IntKind.i64.wrap (x0.2.1 + 1)), .sl 4]), (4, oR (.int 3) d0)]⟩ : St)) (show (([] : List Int) : List Int) = (List.filter (fun e => !decide (e = x1)) (List.take (0) x0.2.2)) from by first | with_reducible rfl | (first | rfl | simp) | rfl) (show (0 : Int) = (((0) : Nat) : Int) from by first | with_reducible rfl | (first | rfl | simp) | rfl)) (by omega) ?_
 intro i a w hok0 h
 have hlt0 := len_filter_take (p := (fun e => !decide (e = x1))) (xs := x0.2.2) i
 refine wp_seq (wp_seq ?_)
 refine at_regq [] { ts := [1, 2, 4, 5, 6, 7, 18], os := [1, 2, 3, 4] } [] gamOK hT h (by kernel_rfl) trivial fun a w h => then_normal ?_
 refine at_test (decide (((i : Nat) : Int) < ((List.length x0.2.2 : Nat) : Int))) h (by kernel_rfl) (fun h1 => ?_) (fun h1 => ?_)
 ·replace h1 : ((i : Nat) : Int) < ((List.length x0.2.2 : Nat) : Int) := of_decide_eq_true h1
  refine wp_skip (then_normal (wp_seq (wp_block (wp_seq ?_))))
  refine at_regq [] { ts := [1, 2, 4, 5, 6, 7, 27], os := [1, 2, 3, 4] } [(0 : Int) ≤ ((i : Nat) : Int) ∧ ((i : Nat) : Int) < ((List.length x0.2.2 : Nat) : Int)] gamOK hT h (by kernel_rfl) ⟨(by refine ⟨?_, ?_⟩ <;> (first | omega | (simp only [lsA]; omega) | (simp <;> omega))), trivial⟩ fun a w h => then_normal ?_
  refine at_test (!decide ((x0.2.2.getD i 0) = x1)) h (by kernel_rfl) (fun h2 => ?_) (fun h2 => ?_)
  ·replace h2 : ¬ ((x0.2.2.getD i 0) = x1) := of_decide_eq_false (notT h2)
   refine at_anyq [{}, {}, {}, {}, {}, {}, {}, { ids := [5] }, { ids := [6] }, {}, {}] { ts := [1, 2, 4, 5, 6, 7], os := [1, 2, 3, 6] } [(0 : Int) ≤ ((i : Nat) : Int) ∧ ((i : Nat) : Int) < ((List.length x0.2.2 : Nat) : Int), (List.length (List.filter (fun e => !decide (e = x1)) (List.take i x0.2.2)) + List.length ([(x0.2.2.getD i 0)])) * 8 ≤ 140737488355328] gamOK hT mixed h (by kernel_rfl) ⟨(by refine ⟨?_, ?_⟩ <;> (first | omega | (simp only [lsA]; omega) | (simp <;> omega))), (by first | omega | (simp only [lsA]; omega) | (simp <;> omega)), trivial⟩ fun a w h => in_normal (then_normal ?_)
   refine at_regq [{}, { nw := true }] { ts := [1, 2, 4, 5, 6, 7], os := [1, 2, 3, 6] } [I64 (((i : Nat) : Int) + 1)] gamOK hT h (by kernel_rfl) ⟨⟨by first | omega | (simp only [lsA]; omega) | (simp <;> omega), by first | omega | (simp only [lsA]; omega) | (simp <;> omega)⟩, trivial⟩ fun a w h => ?_
   replace h := at_out (σ' := ⟨[(1, aI x1), (2, aP 1 0), (4, aP 2 0), (5, aB false), (6, aP 3 0), (7, aI (((i : Nat) : Int) + 1))], [(1, oX 26 [cI x0.1, cI x0.2.1, .ro (.int 3) x0.2.2]), (2, oX 26 [cI 0, cI 0, cN]), (3, oX 26 [cI x0.1, cI (IntKind.i64.wrap (x0.2.1 + 1)), .sl 4]), (4, oR (.int 3) ((List.filter (fun e => !decide (e = x1)) (List.take i x0.2.2)) ++ ([(x0.2.2.getD i 0)])))]⟩) { ts := [1, 2, 4, 5, 6, 7], os := [1, 2, 3, 6], rn := [(6, 4)] } h (by kernel_rfl)
   exact ⟨i + 1, at_eq h (st_congr2 (fun (d0 : List Int) (d1 : Int) => (⟨[(1, aI x1), (2, aP 1 0), (4, aP 2 0), (5, aB false), (6, aP 3 0), (7, aI d1)], [(1, oX 26 [cI x0.1, cI x0.2.1, .ro (.int 3) x0.2.2]), (2, oX 26 [cI 0, cI 0, cN]), (3, oX 26 [cI x0.1, cI (IntKind.i64.wrap (x0.2.1 + 1)), .sl 4]), (4, oR (.int 3) d0)]⟩ : St)) (show (((List.filter (fun e => !decide (e = x1)) (List.take i x0.2.2)) ++ ([(x0.2.2.getD i 0)])) : List Int) = (List.filter (fun e => !decide (e = x1)) (List.take (i + 1) x0.2.2)) from by first | with_reducible rfl | (first | (rw [filter_snoc_t (z := 0) (by omega) (by first | assumption | (simp_all; done))]; done) | (rw [filter_snoc_f (z := 0) (by omega) (by first | assumption | (simp_all; done))]; done)) | rfl) (show (((i : Nat) : Int) + 1 : Int) = (((i + 1) : Nat) : Int) from by first | with_reducible rfl | (omega) | rfl)), (by omega), (by omega)⟩
  ·replace h2 : (x0.2.2.getD i 0) = x1 := of_decide_eq_true (notF h2)
   refine wp_skip (in_normal (then_normal ?_))
   refine at_regq [{}, { nw := true }] { ts := [1, 2, 4, 5, 6, 7], os := [1, 2, 3, 4] } [I64 (((i : Nat) : Int) + 1)] gamOK hT h (by kernel_rfl) ⟨⟨by first | omega | (simp only [lsA]; omega) | (simp <;> omega), by first | omega | (simp only [lsA]; omega) | (simp <;> omega)⟩, trivial⟩ fun a w h => ?_
   replace h := at_out (σ' := ⟨[(1, aI x1), (2, aP 1 0), (4, aP 2 0), (5, aB false), (6, aP 3 0), (7, aI (((i : Nat) : Int) + 1))], [(1, oX 26 [cI x0.1, cI x0.2.1, .ro (.int 3) x0.2.2]), (2, oX 26 [cI 0, cI 0, cN]), (3, oX 26 [cI x0.1, cI (IntKind.i64.wrap (x0.2.1 + 1)), .sl 4]), (4, oR (.int 3) (List.filter (fun e => !decide (e = x1)) (List.take i x0.2.2)))]⟩) { ts := [1, 2, 4, 5, 6, 7], os := [1, 2, 3, 4] } h (by kernel_rfl)
   exact ⟨i + 1, at_eq h (st_congr2 (fun (d0 : List Int) (d1 : Int) => (⟨[(1, aI x1), (2, aP 1 0), (4, aP 2 0), (5, aB false), (6, aP 3 0), (7, aI d1)], [(1, oX 26 [cI x0.1, cI x0.2.1, .ro (.int 3) x0.2.2]), (2, oX 26 [cI 0, cI 0, cN]), (3, oX 26 [cI x0.1, cI (IntKind.i64.wrap (x0.2.1 + 1)), .sl 4]), (4, oR (.int 3) d0)]⟩ : St)) (show ((List.filter (fun e => !decide (e = x1)) (List.take i x0.2.2)) : List Int) = (List.filter (fun e => !decide (e = x1)) (List.take (i + 1) x0.2.2)) from by first | with_reducible rfl | (first | (rw [filter_snoc_t (z := 0) (by omega) (by first | assumption | (simp_all; done))]; done) | (rw [filter_snoc_f (z := 0) (by omega) (by first | assumption | (simp_all; done))]; done)) | rfl) (show (((i : Nat) : Int) + 1 : Int) = (((i + 1) : Nat) : Int) from by first | with_reducible rfl | (omega) | rfl)), (by omega), (by omega)⟩
 ·replace h1 : ¬ (((i : Nat) : Int) < ((List.length x0.2.2 : Nat) : Int)) := of_decide_eq_false h1
  refine wp_exit (then_exit ?_)
  replace h := at_out (σ' := ⟨[(2, aP 1 0), (4, aP 2 0), (5, aB false), (6, aP 3 0)], [(1, oX 26 [cI x0.1, cI x0.2.1, .ro (.int 3) x0.2.2]), (2, oX 26 [cI 0, cI 0, cN]), (3, oX 26 [cI x0.1, cI (IntKind.i64.wrap (x0.2.1 + 1)), .sl 4]), (4, oR (.int 3) (List.filter (fun e => !decide (e = x1)) (List.take i x0.2.2)))]⟩) { ts := [2, 4, 5, 6], os := [1, 2, 3, 4] } h (by kernel_rfl)
  replace h := at_eq (σ' := ⟨[(2, aP 1 0), (4, aP 2 0), (5, aB false), (6, aP 3 0)], [(1, oX 26 [cI x0.1, cI x0.2.1, .ro (.int 3) x0.2.2]), (2, oX 26 [cI 0, cI 0, cN]), (3, oX 26 [cI x0.1, cI (IntKind.i64.wrap (x0.2.1 + 1)), .sl 4]), (4, oR (.int 3) (List.filter (fun e => !decide (e = x1)) x0.2.2))]⟩) h (st_congr1 (fun (d0 : List Int) => (⟨[(2, aP 1 0), (4, aP 2 0), (5, aB false), (6, aP 3 0)], [(1, oX 26 [cI x0.1, cI x0.2.1, .ro (.int 3) x0.2.2]), (2, oX 26 [cI 0, cI 0, cN]), (3, oX 26 [cI x0.1, cI (IntKind.i64.wrap (x0.2.1 + 1)), .sl 4]), (4, oR (.int 3) d0)]⟩ : St)) (show ((List.filter (fun e => !decide (e = x1)) (List.take i x0.2.2)) : List Int) = (List.filter (fun e => !decide (e = x1)) x0.2.2) from by first | with_reducible rfl | (rw [take_all (by omega)]) | rfl))
  refine then_exit (in_hit (then_normal (wp_seq (wp_seq ?_))))
  rcases Bool.eq_false_or_eq_true (!(validGroup x0)) with h3 | h3
  ·have hzh3 : (validGroup x0) = false := notT h3
   refine at_regq [{}, {}, { hint := some (aB true) }] { ts := [2, 4, 5, 6, 54], os := [1, 2, 3, 4] } [Q_spec_IsValidGroup x0, (AV.p (.c (.v (.bool (!(validGroup x0))))) = AV.p (.c (.v (.bool true))))] gamOK hT h (by kernel_rfl) ⟨(by first | exact hf0 | exact ⟨trivial, trivial, Sh.fit_len rfl (Nat.le_trans (List.length_filter_le _ _) (by omega))⟩), hint_bool (h3), trivial⟩ fun a w h => then_normal ?_
   refine at_test true h (by kernel_rfl) (fun hh => ?_) (fun hh => nomatch hh)
   refine wp_seq ?_
   refine at_regq [{}, { ids := [7] }] { ts := [4, 5, 6], os := [2, 3, 4, 7] } [Q_spec_l27Copy x0] gamOK hT h (by kernel_rfl) ⟨(by exact hf0), trivial⟩ fun a w h => then_normal (wp_ret (then_ret ?_))
   exact at_return (x0, (false, ())) [] h (by kernel_rfl) trivial (congrArg (fun z => (z.1, z.2, ())) (show ((x0, false)) = D_spec_LeaveGroup x0 x1 from by first | rfl | (unfold D_spec_LeaveGroup; rw [if_neg (neT (notT h3))])))
  ·have hzh3 : (validGroup x0) = true := notF h3
   have hvh3 := validGroup_t (notF h3)
   rcases Bool.eq_false_or_eq_true (!(validGroup (x0.1, (IntKind.i64.wrap (x0.2.1 + 1), (List.filter (fun e => !decide (e = x1)) x0.2.2))))) with h4 | h4
   ·have hzh4 : (validGroup (x0.1, (IntKind.i64.wrap (x0.2.1 + 1), (List.filter (fun e => !decide (e = x1)) x0.2.2)))) = false := notT h4
    refine at_regq [{}, {}, { hint := some (aB false) }, {}, {}, {}, { hint := some (aB true) }] { ts := [2, 4, 5, 6, 54], os := [1, 2, 3, 4] } [Q_spec_IsValidGroup x0, (AV.p (.c (.v (.bool (!(validGroup x0))))) = AV.p (.c (.v (.bool false)))), Q_spec_IsValidGroup (x0.1, (IntKind.i64.wrap (x0.2.1 + 1), (List.filter (fun e => !decide (e = x1)) x0.2.2))), (AV.p (.c (.v (.bool (!(validGroup (x0.1, (IntKind.i64.wrap (x0.2.1 + 1), (List.filter (fun e => !decide (e = x1)) x0.2.2)))))))) = AV.p (.c (.v (.bool true))))] gamOK hT h (by kernel_rfl) ⟨(by first | exact hf0 | exact ⟨trivial, trivial, Sh.fit_len rfl (Nat.le_trans (List.length_filter_le _ _) (by omega))⟩), hint_bool (h3), (by first | exact hf0 | exact ⟨trivial, trivial, Sh.fit_len rfl (Nat.le_trans (List.length_filter_le _ _) (by omega))⟩), hint_bool (h4), trivial⟩ fun a w h => then_normal ?_
    refine at_test true h (by kernel_rfl) (fun hh => ?_) (fun hh => nomatch hh)
    refine wp_seq ?_
    refine at_regq [{}, { ids := [7] }] { ts := [4, 5, 6], os := [2, 3, 4, 7] } [Q_spec_l27Copy x0] gamOK hT h (by kernel_rfl) ⟨(by exact hf0), trivial⟩ fun a w h => then_normal (wp_ret (then_ret ?_))
    exact at_return (x0, (false, ())) [] h (by kernel_rfl) trivial (congrArg (fun z => (z.1, z.2, ())) (show ((x0, false)) = D_spec_LeaveGroup x0 x1 from by first | rfl | (unfold D_spec_LeaveGroup; rw [if_pos (notF h3), if_neg (neT (notT h4))])))
   ·have hzh4 : (validGroup (x0.1, (IntKind.i64.wrap (x0.2.1 + 1), (List.filter (fun e => !decide (e = x1)) x0.2.2)))) = true := notF h4
    have hvh4 := validGroup_t (notF h4)
    refine at_regq [{}, {}, { hint := some (aB false) }, {}, {}, {}, { hint := some (aB false) }] { ts := [2, 4, 5, 6, 54], os := [1, 2, 3, 4] } [Q_spec_IsValidGroup x0, (AV.p (.c (.v (.bool (!(validGroup x0))))) = AV.p (.c (.v (.bool false)))), Q_spec_IsValidGroup (x0.1, (IntKind.i64.wrap (x0.2.1 + 1), (List.filter (fun e => !decide (e = x1)) x0.2.2))), (AV.p (.c (.v (.bool (!(validGroup (x0.1, (IntKind.i64.wrap (x0.2.1 + 1), (List.filter (fun e => !decide (e = x1)) x0.2.2)))))))) = AV.p (.c (.v (.bool false))))] gamOK hT h (by kernel_rfl) ⟨(by first | exact hf0 | exact ⟨trivial, trivial, Sh.fit_len rfl (Nat.le_trans (List.length_filter_le _ _) (by omega))⟩), hint_bool (h3), (by first | exact hf0 | exact ⟨trivial, trivial, Sh.fit_len rfl (Nat.le_trans (List.length_filter_le _ _) (by omega))⟩), hint_bool (h4), trivial⟩ fun a w h => then_normal ?_
    refine at_test (decide (((List.length (List.filter (fun e => !decide (e = x1)) x0.2.2) : Nat) : Int) = ((List.length x0.2.2 : Nat) : Int))) h (by kernel_rfl) (fun h5 => ?_) (fun h5 => ?_)
    ·replace h5 : ((List.length (List.filter (fun e => !decide (e = x1)) x0.2.2) : Nat) : Int) = ((List.length x0.2.2 : Nat) : Int) := of_decide_eq_true h5
     refine wp_seq ?_
     refine at_regq [{}, { ids := [7] }] { ts := [4, 5, 6], os := [2, 3, 4, 7] } [Q_spec_l27Copy x0] gamOK hT h (by kernel_rfl) ⟨(by exact hf0), trivial⟩ fun a w h => then_normal (wp_ret (then_ret ?_))
     exact at_return (x0, (false, ())) [] h (by kernel_rfl) trivial (congrArg (fun z => (z.1, z.2, ())) (show ((x0, false)) = D_spec_LeaveGroup x0 x1 from by first | rfl | (unfold D_spec_LeaveGroup; rw [if_pos (notF h3), if_pos (notF h4), if_pos h5])))
    ·replace h5 : ¬ (((List.length (List.filter (fun e => !decide (e = x1)) x0.2.2) : Nat) : Int) = ((List.length x0.2.2 : Nat) : Int)) := of_decide_eq_false h5
     refine wp_skip (then_normal (wp_seq ?_))
     refine at_regq [] { ts := [4, 5], os := [2, 4] } [] gamOK hT h (by kernel_rfl) trivial fun a w h => then_normal (wp_ret ?_)
     exact at_return ((x0.1, (IntKind.i64.wrap (x0.2.1 + 1), (List.filter (fun e => !decide (e = x1)) x0.2.2))), (true, ())) [] h (by kernel_rfl) trivial (congrArg (fun z => (z.1, z.2, ())) (show (((x0.1, (IntKind.i64.wrap (x0.2.1 + 1), (List.filter (fun e => !decide (e = x1)) x0.2.2))), true)) = D_spec_LeaveGroup x0 x1 from by first | rfl | (unfold D_spec_LeaveGroup; rw [if_pos (notF h3), if_pos (notF h4), if_neg h5])))
theorem wrap_ep {n : Int} (h : 0 ≤ n ∧ n ≤ 100000) : IntKind.i64.wrap (n + 1) = n + 1 := wrap_id ⟨by omega, by omega⟩
theorem bs_known {xs : List Int} {v : Int} (h : allN (grpP xs) xs.length = true) : (D_slices_BinarySearch_S_int_int_ xs v) = (((twL (fun e => decide (e < v)) xs : Nat) : Int), decide (v ∈ xs)) := by
 have hs := grp_sorted h
 have hm : ∀ a b, a ≤ b → b < xs.length → ltAt xs v b = true → ltAt xs v a = true := fun a b hab hb hp => by
  unfold ltAt at hp ⊢
  rw [decide_eq_true_iff] at hp ⊢
  by_cases e : a = b
  ·rw [e]; exact hp
  ·have := hs a b (by omega) hb; omega
 obtain ⟨h1, h2⟩ := bsF_first hm xs.length 0 xs.length (by omega) (by omega) (Nat.le_refl _) (fun a ha => by omega) (fun a ha hn => by omega)
 unfold D_slices_BinarySearch_S_int_int_
 rw [bs_tw h] at *
 refine Prod.ext rfl ?_
 show decide _ = decide _
 rw [decide_eq_decide]
 constructor
 ·rintro ⟨hl, he⟩
  have h3 := getD_mem (z := (0 : Int)) hl
  rw [he] at h3; exact h3
 ·intro hv
  obtain ⟨j, hj, rfl⟩ := List.getElem_of_mem hv
  have hg : xs.getD j 0 = xs[j] := getD_of_lt hj
  generalize twL (fun e => decide (e < xs[j])) xs = t at *
  have : t = j := by
   rcases Nat.lt_trichotomy t j with hlt | rfl | hgt
   ·have h3 := hs t j hlt hj
    have h4 := h2 t (Nat.le_refl _) (by omega)
    unfold ltAt at h4
    rw [decide_eq_false_iff_not] at h4
    omega
   ·rfl
   ·have h4 := h1 j hgt
    unfold ltAt at h4
    rw [decide_eq_true_iff] at h4
    omega
  subst this
  exact ⟨hj, hg⟩
theorem joinGroup_eq (g : T26) (m : Int) : D_impl_JoinGroup g m = D_spec_JoinGroup g m := by
 unfold D_impl_JoinGroup D_spec_JoinGroup
 by_cases hg : validGroup g = true
 ·rw [if_pos hg, if_pos hg]
  have hv := validGroup_t hg
  rw [wrap_ep hv.2.1, bs_known hv.2.2.2]
  dsimp only
  have hl : ([] : List Int) ++ List.drop 0 (List.take (twL (fun e => decide (e < m)) g.2.2) g.2.2) ++ [m] ++ List.drop (twL (fun e => decide (e < m)) g.2.2) (List.take (List.length g.2.2) g.2.2) = insAt g.2.2 (twL (fun e => decide (e < m)) g.2.2) [m] := by simp [insAt]
  rw [hl]
  unfold D_slices_Insert_S_int_int_ grpChanged
  rw [Int.toNat_natCast]
  by_cases hm : m ∈ g.2.2
  ·rw [if_pos (decide_eq_true hm), if_neg]
   intro hv2
   have hv2 := (validGroup_t hv2).2.2.2
   have hs2 := grp_sorted hv2
   have hs := grp_sorted hv.2.2.2
   have hb := bs_known (v := m) hv.2.2.2
   unfold D_slices_BinarySearch_S_int_int_ at hb
   rw [bs_tw hv.2.2.2] at hb
   have hb2 := congrArg (fun z : Int × Bool => z.2) hb
   dsimp only at hb2
   rw [decide_eq_decide] at hb2
   obtain ⟨k1, k2⟩ := hb2.2 hm
   generalize twL (fun e => decide (e < m)) g.2.2 = t at *
   have e1 : (insAt g.2.2 t [m]).length = g.2.2.length + 1 := by simp [insAt]; omega
   have := hs2 t (t + 1) (by omega) (by show _ < (insAt g.2.2 t [m]).length; omega)
   have e2 : (insAt g.2.2 t [m]).getD t 0 = m := by
    unfold insAt
    rw [List.getD_eq_getElem?_getD, List.append_assoc, List.getElem?_append_right (by simp; omega)]
    simp [Nat.min_eq_left (Nat.le_of_lt k1)]
   have e3 : (insAt g.2.2 t [m]).getD (t + 1) 0 = m := by
    unfold insAt
    rw [List.getD_eq_getElem?_getD, List.getElem?_append_right (by simp; omega)]
    simp [Nat.min_eq_left (Nat.le_of_lt k1)]
    simpa [List.getD_eq_getElem?_getD] using k2
   have this : (insAt g.2.2 t [m]).getD t 0 < (insAt g.2.2 t [m]).getD (t + 1) 0 := this
   rw [e2, e3] at this
   omega
  ·rw [if_neg (by rw [decide_eq_false hm]; decide)]
   try (split <;> rfl)
 ·rw [if_neg hg, if_neg hg]
theorem grpChanged_len (g : T26) (l : List Int) : List.length (grpChanged g l).1.2.2 ≤ List.length g.2.2 + List.length l := by
 unfold grpChanged; split
 ·show List.length l ≤ _; omega
 ·show List.length g.2.2 ≤ _; omega
theorem joinGroup_len (g : T26) (m : Int) : List.length (D_impl_JoinGroup g m).1.2.2 ≤ 2 * List.length g.2.2 + 1 := by
 unfold D_impl_JoinGroup
 split
 ·split
  ·show List.length g.2.2 ≤ _; omega
  ·have h1 := grpChanged_len g (D_slices_Insert_S_int_int_ g.2.2 (D_slices_BinarySearch_S_int_int_ g.2.2 m).1 ([m]))
   have h2 : List.length (D_slices_Insert_S_int_int_ g.2.2 (D_slices_BinarySearch_S_int_int_ g.2.2 m).1 ([m])) ≤ List.length g.2.2 + 1 := by unfold D_slices_Insert_S_int_int_ insAt; simp; omega
   dsimp only; omega
 ·show List.length g.2.2 ≤ _; omega
theorem leaveGroup_len (g : T26) (m : Int) : List.length (D_impl_LeaveGroup g m).1.2.2 ≤ 3 * List.length g.2.2 + 1 := by
 unfold D_impl_LeaveGroup
 split
 ·split
  ·have h1 := grpChanged_len g (D_slices_Delete_S_int_int_ g.2.2 (D_slices_BinarySearch_S_int_int_ g.2.2 m).1 ((D_slices_BinarySearch_S_int_int_ g.2.2 m).1 + 1))
   have h2 : List.length (D_slices_Delete_S_int_int_ g.2.2 (D_slices_BinarySearch_S_int_int_ g.2.2 m).1 ((D_slices_BinarySearch_S_int_int_ g.2.2 m).1 + 1)) ≤ 2 * List.length g.2.2 := by unfold D_slices_Delete_S_int_int_ delAt; simp; omega
   dsimp only; omega
  ·show List.length g.2.2 ≤ _; omega
 ·show List.length g.2.2 ≤ _; omega
theorem filter_del {xs : List Int} {v : Int} {t : Nat} (hs : ∀ a b, a < b → b < xs.length → xs.getD a 0 < xs.getD b 0) (ht : t < xs.length) (hv : xs.getD t 0 = v) : xs.filter (fun e => !decide (e = v)) = delAt xs t (t + 1) := by
 unfold delAt
 conv => lhs; rw [← List.take_append_drop t xs, ← List.getElem_cons_drop ht]
 rw [List.filter_append, List.filter_cons_of_neg (by rw [← hv, getD_of_lt ht]; simp)]
 congr 1
 ·rw [List.filter_eq_self]
  intro x hx
  obtain ⟨j, hj, rfl⟩ := List.getElem_of_mem hx
  rw [List.length_take] at hj
  have := hs j t (by omega) ht
  rw [hv, getD_of_lt (by omega)] at this
  rw [List.getElem_take]
  simp
  omega
 ·rw [List.filter_eq_self]
  intro x hx
  obtain ⟨j, hj, rfl⟩ := List.getElem_of_mem hx
  rw [List.length_drop] at hj
  have := hs t (t + 1 + j) (by omega) (by omega)
  rw [hv, getD_of_lt (by omega)] at this
  rw [List.getElem_drop]
  simp
  omega
theorem leaveGroup_eq (g : T26) (m : Int) : D_impl_LeaveGroup g m = D_spec_LeaveGroup g m := by
 unfold D_impl_LeaveGroup D_spec_LeaveGroup
 by_cases hg : validGroup g = true
 ·rw [if_pos hg, if_pos hg]
  have hv := validGroup_t hg
  have hs := grp_sorted hv.2.2.2
  rw [wrap_ep hv.2.1, bs_known hv.2.2.2]
  dsimp only
  by_cases hm : m ∈ g.2.2
  ·have hb := bs_known (v := m) hv.2.2.2
   unfold D_slices_BinarySearch_S_int_int_ at hb
   rw [bs_tw hv.2.2.2] at hb
   have hb2 := congrArg (fun z : Int × Bool => z.2) hb
   dsimp only at hb2
   rw [decide_eq_decide] at hb2
   obtain ⟨k1, k2⟩ := hb2.2 hm
   rw [if_pos (decide_eq_true hm)]
   generalize twL (fun e => decide (e < m)) g.2.2 = t at *
   unfold D_slices_Delete_S_int_int_ grpChanged
   rw [Int.toNat_natCast, show (((t : Nat) : Int) + 1).toNat = t + 1 by omega, filter_del hs k1 k2]
   have hl : ¬ (((List.length (delAt g.2.2 t (t + 1)) : Nat) : Int) = ((List.length g.2.2 : Nat) : Int)) := by
    unfold delAt; simp; omega
   rw [if_neg hl]
   try (split <;> rfl)
  ·rw [if_neg (by rw [decide_eq_false hm]; decide)]
   have hf : g.2.2.filter (fun e => !decide (e = m)) = g.2.2 := by
    rw [List.filter_eq_self]; intro x hx; simp; intro e; exact hm (e ▸ hx)
   rw [hf, if_pos rfl]
   try (split <;> rfl)
 ·rw [if_neg hg, if_neg hg]

def and255 (z : Int) : Int := IntKind.i64.wrap ((BitVec.ofInt (IntKind.i64).bits z &&& BitVec.ofInt (IntKind.i64).bits 255).toNat : Int)
theorem and255_bd (z : Int) : 0 ≤ and255 z ∧ and255 z ≤ 255 := by
 unfold and255
 have e : (BitVec.ofInt (IntKind.i64).bits z &&& BitVec.ofInt (IntKind.i64).bits 255).toNat ≤ 255 := by
  rw [BitVec.toNat_and]
  have h2 : (BitVec.ofInt (IntKind.i64).bits 255).toNat = 255 := by decide
  rw [h2]; exact Nat.and_le_right
 rw [IntKind.wrap_i64]; omega
def lcgF (h : Int) : Int := IntKind.i64.wrap (IntKind.i64.wrap (h * 6364136223846793005) + 1442695040888963407)
def xorF (h : Int) : Int := IntKind.i64.wrap ((BitVec.ofInt (IntKind.i64).bits (Int.fdiv h (2 ^ (min (33 : Int).toNat (IntKind.i64).bits))) ^^^ BitVec.ofInt (IntKind.i64).bits (Int.fdiv h (2 ^ (min (47 : Int).toNat (IntKind.i64).bits)))).toNat : Int)
def hsF (h c : Int) : Int := IntKind.i64.wrap ((BitVec.ofInt (IntKind.i64).bits (IntKind.i64.wrap (IntKind.i64.wrap (IntKind.i64.wrap (h * 137) + c) + 11)) &&& BitVec.ofInt (IntKind.i64).bits 1073741823).toNat : Int)
def hsTo (code : List Int) : Nat → Int
 | 0 => 193017 + ((List.length code : Nat) : Int)
 | i + 1 => hsF (hsTo code i) (code.getD i 0)
def newC (code : List Int) : T53 := (code, 0, hsTo code (min (List.length code) 4000))
abbrev Q_spec_l1New := (fun (x0 : (List Int)) => Sh.fit s22 x0)
def B_spec_l1New : NS := { t := 53, s := s53, dom := [s22], pre := fun x => Q_spec_l1New x.1, g := fun x => (newC x.1) }
def S_spec_l1New : Sum := nSum 14 B_spec_l1New
def S_spec_l1New_tab : List (Nat × Sum) := []
theorem S_spec_l1New_ok : FnOK Try.prog 14 S_spec_l1New := by
 refine at_enterN (B := B_spec_l1New) 32 (fun x => ⟨[(0, aF (.u8 5) x.1)], []⟩) Try.func14 rfl (by kernel_rfl) (fun x => rfl) ?_
 rintro w0 Z0 ⟨x0, u⟩ a w
 revert x0
 intro (x0 : (List Int)) hpre hlens h
 replace h : At w0 Z0 [] 32 ⟨[(0, aF (.u8 5) x0)], []⟩ a w := h
 replace hpre : Q_spec_l1New x0 := hpre
 have hl1 : List.length x0 ≤ 9223372036854775807 := hlens.1.1
 have hu0 : u8L x0 := hlens.1.2
 have hT : TabOK Try.prog S_spec_l1New_tab := .nil
 have hf0 : Sh.fit s22 x0 := hpre
 have hn0_1 : List.length x0 ≤ 1073741824 := hf0.1
 refine wp_seq ?_
 refine at_regq [] { ts := [0, 2], os := [] } [] gamOK hT h (by kernel_rfl) trivial fun a w h => then_normal (wp_seq ?_)
 refine at_regq [{}, {}, { nw := true }] { ts := [0, 2, 3], os := [] } [I64 (193017 + ((List.length x0 : Nat) : Int))] gamOK hT h (by kernel_rfl) ⟨⟨by first | omega | (simp only [lsA]; omega) | (simp <;> omega), by first | omega | (simp only [lsA]; omega) | (simp <;> omega)⟩, trivial⟩ fun a w h => then_normal (wp_seq (wp_seq ?_))
 refine at_regq [] { ts := [0, 2, 3, 4], os := [] } [] gamOK hT h (by kernel_rfl) trivial fun a w h => then_normal (wp_block ?_)
 replace h := at_out (σ' := ⟨[(0, aF (.u8 5) x0), (2, .p (.c (.v (.pointer none)))), (3, aI (193017 + ((List.length x0 : Nat) : Int))), (4, aI 0)], []⟩) { ts := [0, 2, 3, 4], os := [] } h (by kernel_rfl)
 refine at_loop (fun i : Nat => (⟨[(0, aF (.u8 5) x0), (2, .p (.c (.v (.pointer none)))), (3, aI (hsTo x0 i)), (4, aI ((i : Nat) : Int))], []⟩ : St)) (fun i => i ≤ (min (List.length x0) 4000)) (fun i => (min (List.length x0) 4000) - i) (0) h (st_congr2 (fun (d0 : Int) (d1 : Int) => (⟨[(0, aF (.u8 5) x0), (2, .p (.c (.v (.pointer none)))), (3, aI d0), (4, aI d1)], []⟩ : St)) (show (193017 + ((List.length x0 : Nat) : Int) : Int) = (hsTo x0 (0)) from by first | with_reducible rfl | (rfl) | rfl) (show (0 : Int) = (((0) : Nat) : Int) from by first | with_reducible rfl | (rfl) | rfl)) (by omega) ?_
 intro i a w hok0 h
 have hu1 := getD_u8 hu0 i
 refine wp_seq (wp_seq ?_)
 by_cases h1 : ((i : Nat) : Int) < ((List.length x0 : Nat) : Int)
 ·refine at_regq [{}, {}, {}, { hint := some (aB true) }] { ts := [0, 2, 3, 4, 13, 14, 15], os := [] } [(AV.p (.c (.v (.bool (decide (((i : Nat) : Int) < ((List.length x0 : Nat) : Int)))))) = AV.p (.c (.v (.bool true))))] gamOK hT h (by kernel_rfl) ⟨hint_bool (decide_eq_true h1), trivial⟩ fun a w h => then_normal ?_
  refine at_test (decide (((i : Nat) : Int) < 4000)) h (by kernel_rfl) (fun h2 => ?_) (fun h2 => ?_)
  ·replace h2 : ((i : Nat) : Int) < 4000 := of_decide_eq_true h2
   refine wp_skip (then_normal (wp_seq (wp_block ?_)))
   refine at_regq [{}, {}, {}, {}, {}, {}, { hint := some (aI (x0.getD i 0)) }, {}, {}, { hint := some (aI (hsF (hsTo x0 i) (x0.getD i 0))) }] { ts := [0, 2, 3, 4, 13, 14], os := [] } [(0 : Int) ≤ ((i : Nat) : Int) ∧ ((i : Nat) : Int) < ((List.length x0 : Nat) : Int), (AV.p (.c (.v (.int .i64 (IntKind.i64.wrap ((x0.getD i 0)))))) = AV.p (.c (.v (.int .i64 ((x0.getD i 0)))))), (AV.p (.c (.v (.int .i64 (IntKind.i64.wrap ((BitVec.ofInt (IntKind.i64).bits (IntKind.i64.wrap ((IntKind.i64.wrap ((IntKind.i64.wrap ((hsTo x0 i) * 137)) + (x0.getD i 0))) + 11)) &&& BitVec.ofInt (IntKind.i64).bits 1073741823).toNat : Int))))) = AV.p (.c (.v (.int .i64 ((hsF (hsTo x0 i) (x0.getD i 0)))))))] gamOK hT h (by kernel_rfl) ⟨(by refine ⟨?_, ?_⟩ <;> (first | omega | (simp only [lsA]; omega) | (simp <;> omega))), hint_int (wrap_id ⟨by first | omega | (simp only [lsA]; omega) | (simp <;> omega), by first | omega | (simp only [lsA]; omega) | (simp <;> omega)⟩), hint_int (by rfl), trivial⟩ fun a w h => in_normal (then_normal ?_)
   refine at_regq [{}, { nw := true }] { ts := [0, 2, 3, 4, 13, 14], os := [] } [I64 (((i : Nat) : Int) + 1)] gamOK hT h (by kernel_rfl) ⟨⟨by first | omega | (simp only [lsA]; omega) | (simp <;> omega), by first | omega | (simp only [lsA]; omega) | (simp <;> omega)⟩, trivial⟩ fun a w h => ?_
   replace h := at_out (σ' := ⟨[(0, aF (.u8 5) x0), (2, .p (.c (.v (.pointer none)))), (3, aI (hsF (hsTo x0 i) (x0.getD i 0))), (4, aI (((i : Nat) : Int) + 1))], []⟩) { ts := [0, 2, 3, 4], os := [] } h (by kernel_rfl)
   exact ⟨i + 1, at_eq h (st_congr2 (fun (d0 : Int) (d1 : Int) => (⟨[(0, aF (.u8 5) x0), (2, .p (.c (.v (.pointer none)))), (3, aI d0), (4, aI d1)], []⟩ : St)) (show ((hsF (hsTo x0 i) (x0.getD i 0)) : Int) = (hsTo x0 (i + 1)) from by first | with_reducible rfl | (rfl) | rfl) (show (((i : Nat) : Int) + 1 : Int) = (((i + 1) : Nat) : Int) from by first | with_reducible rfl | (omega) | rfl)), (by omega), (by omega)⟩
  ·replace h2 : ¬ (((i : Nat) : Int) < 4000) := of_decide_eq_false h2
   refine wp_exit (then_exit ?_)
   replace h := at_out (σ' := ⟨[(0, aF (.u8 5) x0), (2, .p (.c (.v (.pointer none)))), (3, aI (hsTo x0 i))], []⟩) { ts := [0, 2, 3], os := [] } h (by kernel_rfl)
   replace h := at_eq (σ' := ⟨[(0, aF (.u8 5) x0), (2, .p (.c (.v (.pointer none)))), (3, aI (hsTo x0 (min (List.length x0) 4000)))], []⟩) h (st_congr1 (fun (d0 : Int) => (⟨[(0, aF (.u8 5) x0), (2, .p (.c (.v (.pointer none)))), (3, aI d0)], []⟩ : St)) (show ((hsTo x0 i) : Int) = (hsTo x0 (min (List.length x0) 4000)) from by first | with_reducible rfl | (rw [show i = (min (List.length x0) 4000) by omega]) | rfl))
   refine then_exit (in_hit (then_normal (wp_seq ?_)))
   refine at_regq [{}, {}, {}, { ids := [1] }] { ts := [2], os := [1] } [] gamOK hT h (by kernel_rfl) trivial fun a w h => then_normal (wp_ret ?_)
   exact at_returnN (B := B_spec_l1New) (x := (x0, ())) ((x0, (0, (hsTo x0 (min (List.length x0) 4000))))) [] h (by kernel_rfl) trivial (show (x0, (0, (hsTo x0 (min (List.length x0) 4000)))) = newC x0 from by rfl)
 ·refine at_regq [{}, {}, {}, { hint := some (aB false) }] { ts := [0, 2, 3, 4, 13, 14, 15], os := [] } [(AV.p (.c (.v (.bool (decide (((i : Nat) : Int) < ((List.length x0 : Nat) : Int)))))) = AV.p (.c (.v (.bool false))))] gamOK hT h (by kernel_rfl) ⟨hint_bool (decide_eq_false h1), trivial⟩ fun a w h => then_normal ?_
  refine at_test false h (by kernel_rfl) (fun hh => nomatch hh) (fun hh => ?_)
  refine wp_exit (then_exit ?_)
  replace h := at_out (σ' := ⟨[(0, aF (.u8 5) x0), (2, .p (.c (.v (.pointer none)))), (3, aI (hsTo x0 i))], []⟩) { ts := [0, 2, 3], os := [] } h (by kernel_rfl)
  replace h := at_eq (σ' := ⟨[(0, aF (.u8 5) x0), (2, .p (.c (.v (.pointer none)))), (3, aI (hsTo x0 (min (List.length x0) 4000)))], []⟩) h (st_congr1 (fun (d0 : Int) => (⟨[(0, aF (.u8 5) x0), (2, .p (.c (.v (.pointer none)))), (3, aI d0)], []⟩ : St)) (show ((hsTo x0 i) : Int) = (hsTo x0 (min (List.length x0) 4000)) from by first | with_reducible rfl | (rw [show i = (min (List.length x0) 4000) by omega]) | rfl))
  refine then_exit (in_hit (then_normal (wp_seq ?_)))
  refine at_regq [{}, {}, {}, { ids := [1] }] { ts := [2], os := [1] } [] gamOK hT h (by kernel_rfl) trivial fun a w h => then_normal (wp_ret ?_)
  exact at_returnN (B := B_spec_l1New) (x := (x0, ())) ((x0, (0, (hsTo x0 (min (List.length x0) 4000))))) [] h (by kernel_rfl) trivial (show (x0, (0, (hsTo x0 (min (List.length x0) 4000)))) = newC x0 from by rfl)

def byteC (x0 : T53) : T53 × Int := (if x0.2.1 < ((List.length x0.1 : Nat) : Int) then ((x0.1, (x0.2.1 + 1, (lcgF x0.2.2))), (and255 (and255 (xorF (lcgF x0.2.2)) + x0.1.getD x0.2.1.toNat 0))) else ((x0.1, (x0.2.1, (lcgF x0.2.2))), (and255 (xorF (lcgF x0.2.2)))))
abbrev Q_spec_l1Byte := (fun (x0 : T53) => 0 ≤ x0.2.1)
def B_spec_l1Byte : BS := { t := 53, s := s53, dom := [], cod := [(.int 3)], pre := fun y x => Q_spec_l1Byte y, upd := fun y x => (byteC y).1, g := fun y x => ((byteC y).2, ()) }
def S_spec_l1Byte : Sum := bSum 38 B_spec_l1Byte
def S_spec_l1Byte_tab : List (Nat × Sum) := []
theorem S_spec_l1Byte_ok : FnOK Try.prog 38 S_spec_l1Byte := by
 refine at_enterB (B := B_spec_l1Byte) 58 (fun v y x => ⟨[(0, aP 1 0)], [(1, oX 53 [.ro (.u8 5) y.1, cI y.2.1, cI y.2.2]), (2, oP 1 v)]⟩) Try.func38 rfl (by kernel_rfl) (fun v y x => rfl) ?_
 rintro w0 Z0 b0 x0 ⟨u⟩ a w
 revert x0
 intro (x0 : T53) hpre hlens0 hlens h
 replace h : At w0 Z0 [b0] 58 ⟨[(0, aP 1 0)], [(1, oX 53 [.ro (.u8 5) x0.1, cI x0.2.1, cI x0.2.2]), (2, oP 1 (Value.pointer (some ⟨b0, 0, none⟩)))]⟩ a w := h
 replace hpre : Q_spec_l1Byte x0 := hpre
 have hl1 : List.length x0.1 ≤ 9223372036854775807 := hlens0.1.1
 have hu0 : u8L x0.1 := hlens0.1.2
 have hT : TabOK Try.prog S_spec_l1Byte_tab := .nil
 have hp : (0 : Int) ≤ x0.2.1 := hpre
 refine wp_seq ?_
 refine at_regq [] { ts := [0, 2], os := [1, 2] } [] gamOK hT h (by kernel_rfl) trivial fun a w h => then_normal (wp_seq ?_)
 refine at_regq [{}, {}, {}, {}, {}, {}, { hint := some (aI (lcgF x0.2.2)) }] { ts := [0, 2], os := [1, 2] } [(AV.p (.c (.v (.int .i64 (IntKind.i64.wrap ((IntKind.i64.wrap (x0.2.2 * 6364136223846793005)) + 1442695040888963407))))) = AV.p (.c (.v (.int .i64 ((lcgF x0.2.2))))))] gamOK hT h (by kernel_rfl) ⟨hint_int (by rfl), trivial⟩ fun a w h => then_normal (wp_seq ?_)
 refine at_anyq [{}, {}, {}, {}, {}, {}, {}, {}, {}, {}, { hint := some (aI (xorF (lcgF x0.2.2))) }, { hint := some (aI (and255 (xorF (lcgF x0.2.2)))) }, {}] { ts := [0, 2, 3], os := [1, 2] } [(0 : Int) ≤ 33, (0 : Int) ≤ 47, (AV.p (.c (.v (.int .i64 (IntKind.i64.wrap ((BitVec.ofInt (IntKind.i64).bits (Int.fdiv (lcgF x0.2.2) (2 ^ (min (33 : Int).toNat (IntKind.i64).bits))) ^^^ BitVec.ofInt (IntKind.i64).bits (Int.fdiv (lcgF x0.2.2) (2 ^ (min (47 : Int).toNat (IntKind.i64).bits)))).toNat : Int))))) = AV.p (.c (.v (.int .i64 ((xorF (lcgF x0.2.2))))))), (AV.p (.c (.v (.int .i64 (IntKind.i64.wrap ((BitVec.ofInt (IntKind.i64).bits (xorF (lcgF x0.2.2)) &&& BitVec.ofInt (IntKind.i64).bits 255).toNat : Int))))) = AV.p (.c (.v (.int .i64 ((and255 (xorF (lcgF x0.2.2))))))))] gamOK hT mixed h (by kernel_rfl) ⟨(by first | omega | (simp only [lsA]; omega) | (simp <;> omega)), (by first | omega | (simp only [lsA]; omega) | (simp <;> omega)), hint_int (by rfl), hint_int (by rfl), trivial⟩ fun a w h => then_normal (wp_seq (wp_seq ?_))
 refine at_anyq [{}, {}, {}, {}, {}, {}, {}, {}, {}, {}] { ts := [0, 2, 3, 34], os := [1, 2] } [] gamOK hT mixed h (by kernel_rfl) trivial fun a w h => then_normal ?_
 refine at_test (decide (x0.2.1 < ((List.length x0.1 : Nat) : Int))) h (by kernel_rfl) (fun h1 => ?_) (fun h1 => ?_)
 ·replace h1 : x0.2.1 < ((List.length x0.1 : Nat) : Int) := of_decide_eq_true h1
  have hu1 := getD_u8 hu0 x0.2.1.toNat
  have ha1 := and255_bd (xorF (lcgF x0.2.2))
  refine wp_seq ?_
  refine at_anyq [{}, {}, {}, {}, {}, {}, {}, {}, {}, {}, {}, { hint := some (aI (x0.1.getD ((x0.2.1).toNat) 0)) }, { nw := true }, { hint := some (aI (and255 (and255 (xorF (lcgF x0.2.2)) + x0.1.getD x0.2.1.toNat 0))) }, {}] { ts := [0, 2, 3], os := [1, 2] } [(0 : Int) ≤ x0.2.1 ∧ x0.2.1 < ((List.length x0.1 : Nat) : Int), (AV.p (.c (.v (.int .i64 (IntKind.i64.wrap ((x0.1.getD ((x0.2.1).toNat) 0)))))) = AV.p (.c (.v (.int .i64 ((x0.1.getD ((x0.2.1).toNat) 0)))))), I64 ((and255 (xorF (lcgF x0.2.2))) + (x0.1.getD ((x0.2.1).toNat) 0)), (AV.p (.c (.v (.int .i64 (IntKind.i64.wrap ((BitVec.ofInt (IntKind.i64).bits ((and255 (xorF (lcgF x0.2.2))) + (x0.1.getD ((x0.2.1).toNat) 0)) &&& BitVec.ofInt (IntKind.i64).bits 255).toNat : Int))))) = AV.p (.c (.v (.int .i64 ((and255 (and255 (xorF (lcgF x0.2.2)) + x0.1.getD x0.2.1.toNat 0)))))))] gamOK hT mixed h (by kernel_rfl) ⟨(by refine ⟨?_, ?_⟩ <;> (first | omega | (simp only [lsA]; omega) | (simp <;> omega))), hint_int (wrap_id ⟨by first | omega | (simp only [lsA]; omega) | (simp <;> omega), by first | omega | (simp only [lsA]; omega) | (simp <;> omega)⟩), ⟨by first | omega | (simp only [lsA]; omega) | (simp <;> omega), by first | omega | (simp only [lsA]; omega) | (simp <;> omega)⟩, hint_int (by rfl), trivial⟩ fun a w h => then_normal ?_
  refine at_regq [{}, {}, {}, {}, {}, { nw := true }] { ts := [2, 3], os := [1, 2] } [I64 (x0.2.1 + 1)] gamOK hT h (by kernel_rfl) ⟨⟨by first | omega | (simp only [lsA]; omega) | (simp <;> omega), by first | omega | (simp only [lsA]; omega) | (simp <;> omega)⟩, trivial⟩ fun a w h => then_normal (wp_seq ?_)
  refine at_regq [] { ts := [2], os := [1, 2] } [] gamOK hT h (by kernel_rfl) trivial fun a w h => then_normal (wp_ret ?_)
  have hr2 : (((x0.1, (x0.2.1 + 1, (lcgF x0.2.2))), (and255 (and255 (xorF (lcgF x0.2.2)) + x0.1.getD x0.2.1.toNat 0))) : T53 × Int) = byteC x0 := by first | rfl | (unfold byteC; rw [if_pos h1])
  exact at_returnB (B := B_spec_l1Byte) (c0 := x0) (x := (())) ((x0.1, (x0.2.1 + 1, (lcgF x0.2.2)))) ((and255 (and255 (xorF (lcgF x0.2.2)) + x0.1.getD x0.2.1.toNat 0)), ()) [(Value.pointer (some ⟨b0, 0, none⟩)) = (Value.pointer (some ⟨b0, 0, none⟩))] h (by kernel_rfl) ⟨rfl, trivial⟩ (congrArg (a₁ := ((x0.1, (x0.2.1 + 1, (lcgF x0.2.2))), (and255 (and255 (xorF (lcgF x0.2.2)) + x0.1.getD x0.2.1.toNat 0)))) (a₂ := byteC x0) (fun (z : T53 × Int) => z.1) hr2) (congrArg (a₁ := ((x0.1, (x0.2.1 + 1, (lcgF x0.2.2))), (and255 (and255 (xorF (lcgF x0.2.2)) + x0.1.getD x0.2.1.toNat 0)))) (a₂ := byteC x0) (fun (z : T53 × Int) => (z.2, ())) hr2)
 ·replace h1 : ¬ (x0.2.1 < ((List.length x0.1 : Nat) : Int)) := of_decide_eq_false h1
  refine wp_skip (then_normal (wp_seq ?_))
  refine at_regq [] { ts := [2], os := [1, 2] } [] gamOK hT h (by kernel_rfl) trivial fun a w h => then_normal (wp_ret ?_)
  have hr3 : (((x0.1, (x0.2.1, (lcgF x0.2.2))), (and255 (xorF (lcgF x0.2.2)))) : T53 × Int) = byteC x0 := by first | rfl | (unfold byteC; rw [if_neg h1])
  exact at_returnB (B := B_spec_l1Byte) (c0 := x0) (x := (())) ((x0.1, (x0.2.1, (lcgF x0.2.2)))) ((and255 (xorF (lcgF x0.2.2))), ()) [(Value.pointer (some ⟨b0, 0, none⟩)) = (Value.pointer (some ⟨b0, 0, none⟩))] h (by kernel_rfl) ⟨rfl, trivial⟩ (congrArg (a₁ := ((x0.1, (x0.2.1, (lcgF x0.2.2))), (and255 (xorF (lcgF x0.2.2))))) (a₂ := byteC x0) (fun (z : T53 × Int) => z.1) hr3) (congrArg (a₁ := ((x0.1, (x0.2.1, (lcgF x0.2.2))), (and255 (xorF (lcgF x0.2.2))))) (a₂ := byteC x0) (fun (z : T53 × Int) => (z.2, ())) hr3)
theorem byte_bd (x : T53) : 0 ≤ (byteC x).2 ∧ (byteC x).2 ≤ 255 := by
 unfold byteC; split <;> exact and255_bd _
theorem byte_ok {x : T53} (h : 0 ≤ x.2.1) : 0 ≤ (byteC x).1.2.1 := by
 unfold byteC; split
 ·show (0 : Int) ≤ x.2.1 + 1; omega
 ·exact h

def belowC (x0 : T53) (x1 : Int) : T53 × Int := (if x1 ≤ 0 then (x0, 0) else (if x1 ≤ 256 then ((byteC x0).1, (Int.tmod (byteC x0).2 x1)) else ((byteC (byteC (byteC x0).1).1).1, (Int.tmod ((((byteC x0).2 * 65536) + ((byteC (byteC x0).1).2 * 256)) + (byteC (byteC (byteC x0).1).1).2) x1))))
abbrev Q_spec_l1Below := (fun (x0 : T53) (x1 : Int) => 0 ≤ x0.2.1)
def B_spec_l1Below : BS := { t := 53, s := s53, dom := [(.int 3)], cod := [(.int 3)], pre := fun y x => Q_spec_l1Below y x.1, upd := fun y x => (belowC y x.1).1, g := fun y x => ((belowC y x.1).2, ()) }
def S_spec_l1Below : Sum := bSum 27 B_spec_l1Below
def S_spec_l1Below_tab : List (Nat × Sum) := [(38, S_spec_l1Byte)]
theorem S_spec_l1Below_ok : FnOK Try.prog 27 S_spec_l1Below := by
 refine at_enterB (B := B_spec_l1Below) 31 (fun v y x => ⟨[(0, aP 1 0), (1, aI x.1)], [(1, oX 53 [.ro (.u8 5) y.1, cI y.2.1, cI y.2.2]), (2, oP 1 v)]⟩) Try.func27 rfl (by kernel_rfl) (fun v y x => rfl) ?_
 rintro w0 Z0 b0 x0 ⟨x1, u⟩ a w
 revert x0 x1
 intro (x0 : T53) (x1 : Int) hpre hlens0 hlens h
 replace h : At w0 Z0 [b0] 31 ⟨[(0, aP 1 0), (1, aI x1)], [(1, oX 53 [.ro (.u8 5) x0.1, cI x0.2.1, cI x0.2.2]), (2, oP 1 (Value.pointer (some ⟨b0, 0, none⟩)))]⟩ a w := h
 replace hpre : Q_spec_l1Below x0 x1 := hpre
 have hl1 : List.length x0.1 ≤ 9223372036854775807 := hlens0.1.1
 have hu0 : u8L x0.1 := hlens0.1.2
 have hT : TabOK Try.prog S_spec_l1Below_tab := (.cons S_spec_l1Byte_ok .nil)
 have hb1 := byte_ok hpre
 have hb2 := byte_ok hb1
 have hb3 := byte_ok hb2
 have hd1 := byte_bd x0
 have hd2 := byte_bd (byteC x0).1
 have hd3 := byte_bd (byteC (byteC x0).1).1
 refine wp_seq ?_
 refine at_regq [] { ts := [0, 1, 4], os := [1, 2] } [] gamOK hT h (by kernel_rfl) trivial fun a w h => then_normal (wp_seq (wp_seq ?_))
 refine at_regq [] { ts := [0, 1, 4, 9], os := [1, 2] } [] gamOK hT h (by kernel_rfl) trivial fun a w h => then_normal ?_
 refine at_test (decide (x1 ≤ 0)) h (by kernel_rfl) (fun h1 => ?_) (fun h1 => ?_)
 ·replace h1 : x1 ≤ 0 := of_decide_eq_true h1
  refine wp_seq ?_
  refine at_regq [] { ts := [0, 1, 4], os := [1, 2] } [] gamOK hT h (by kernel_rfl) trivial fun a w h => then_normal (wp_ret (then_ret ?_))
  have hr2 : ((x0, 0) : T53 × Int) = belowC x0 x1 := by first | rfl | (unfold belowC; rw [if_pos h1])
  exact at_returnB (B := B_spec_l1Below) (c0 := x0) (x := (x1, ())) (x0) (0, ()) [(Value.pointer (some ⟨b0, 0, none⟩)) = (Value.pointer (some ⟨b0, 0, none⟩))] h (by kernel_rfl) ⟨rfl, trivial⟩ (congrArg (a₁ := (x0, 0)) (a₂ := belowC x0 x1) (fun (z : T53 × Int) => z.1) hr2) (congrArg (a₁ := (x0, 0)) (a₂ := belowC x0 x1) (fun (z : T53 × Int) => (z.2, ())) hr2)
 ·replace h1 : ¬ (x1 ≤ 0) := of_decide_eq_false h1
  refine wp_skip (then_normal (wp_seq (wp_seq ?_)))
  refine at_regq [] { ts := [0, 1, 4, 11], os := [1, 2] } [] gamOK hT h (by kernel_rfl) trivial fun a w h => then_normal ?_
  refine at_test (decide (x1 ≤ 256)) h (by kernel_rfl) (fun h3 => ?_) (fun h3 => ?_)
  ·replace h3 : x1 ≤ 256 := of_decide_eq_true h3
   refine wp_seq ?_
   refine at_regq [] { ts := [0, 1, 4], os := [1, 2] } [B_spec_l1Byte.pre x0 (()), (x1 : Int) ≠ 0] gamOK hT h (by kernel_rfl) ⟨(by first | exact hpre | exact hb1 | exact hb2 | exact hb3), (by first | omega | (simp only [lsA]; omega) | (simp <;> omega)), trivial⟩ fun a w h => then_normal (wp_ret (then_ret ?_))
   have hr4 : (((byteC x0).1, (Int.tmod (byteC x0).2 x1)) : T53 × Int) = belowC x0 x1 := by first | rfl | (unfold belowC; rw [if_neg h1, if_pos h3])
   exact at_returnB (B := B_spec_l1Below) (c0 := x0) (x := (x1, ())) ((byteC x0).1) ((Int.tmod (byteC x0).2 x1), ()) [(Value.pointer (some ⟨b0, 0, none⟩)) = (Value.pointer (some ⟨b0, 0, none⟩))] h (by kernel_rfl) ⟨rfl, trivial⟩ (congrArg (a₁ := ((byteC x0).1, (Int.tmod (byteC x0).2 x1))) (a₂ := belowC x0 x1) (fun (z : T53 × Int) => z.1) hr4) (congrArg (a₁ := ((byteC x0).1, (Int.tmod (byteC x0).2 x1))) (a₂ := belowC x0 x1) (fun (z : T53 × Int) => (z.2, ())) hr4)
  ·replace h3 : ¬ (x1 ≤ 256) := of_decide_eq_false h3
   refine wp_skip (then_normal (wp_seq ?_))
   refine at_regq [] { ts := [0, 1, 4, 5], os := [1, 2] } [B_spec_l1Byte.pre x0 (())] gamOK hT h (by kernel_rfl) ⟨(by first | exact hpre | exact hb1 | exact hb2 | exact hb3), trivial⟩ fun a w h => then_normal (wp_seq ?_)
   refine at_regq [] { ts := [0, 1, 4, 5, 6], os := [1, 2] } [B_spec_l1Byte.pre (byteC x0).1 (())] gamOK hT h (by kernel_rfl) ⟨(by first | exact hpre | exact hb1 | exact hb2 | exact hb3), trivial⟩ fun a w h => then_normal (wp_seq ?_)
   refine at_regq [] { ts := [1, 4, 5, 6, 7], os := [1, 2] } [B_spec_l1Byte.pre (byteC (byteC x0).1).1 (())] gamOK hT h (by kernel_rfl) ⟨(by first | exact hpre | exact hb1 | exact hb2 | exact hb3), trivial⟩ fun a w h => then_normal (wp_seq ?_)
   refine at_regq [{}, { nw := true }, {}, { nw := true }, { nw := true }, {}, { nw := true }] { ts := [4], os := [1, 2] } [I64 ((byteC x0).2 * 65536), I64 ((byteC (byteC x0).1).2 * 256), I64 (((byteC x0).2 * 65536) + ((byteC (byteC x0).1).2 * 256)), I64 ((((byteC x0).2 * 65536) + ((byteC (byteC x0).1).2 * 256)) + (byteC (byteC (byteC x0).1).1).2), (x1 : Int) ≠ 0] gamOK hT h (by kernel_rfl) ⟨⟨by first | omega | (simp only [lsA]; omega) | (simp <;> omega), by first | omega | (simp only [lsA]; omega) | (simp <;> omega)⟩, ⟨by first | omega | (simp only [lsA]; omega) | (simp <;> omega), by first | omega | (simp only [lsA]; omega) | (simp <;> omega)⟩, ⟨by first | omega | (simp only [lsA]; omega) | (simp <;> omega), by first | omega | (simp only [lsA]; omega) | (simp <;> omega)⟩, ⟨by first | omega | (simp only [lsA]; omega) | (simp <;> omega), by first | omega | (simp only [lsA]; omega) | (simp <;> omega)⟩, (by first | omega | (simp only [lsA]; omega) | (simp <;> omega)), trivial⟩ fun a w h => then_normal (wp_ret ?_)
   have hr5 : (((byteC (byteC (byteC x0).1).1).1, (Int.tmod ((((byteC x0).2 * 65536) + ((byteC (byteC x0).1).2 * 256)) + (byteC (byteC (byteC x0).1).1).2) x1)) : T53 × Int) = belowC x0 x1 := by first | rfl | (unfold belowC; rw [if_neg h1, if_neg h3])
   exact at_returnB (B := B_spec_l1Below) (c0 := x0) (x := (x1, ())) ((byteC (byteC (byteC x0).1).1).1) ((Int.tmod ((((byteC x0).2 * 65536) + ((byteC (byteC x0).1).2 * 256)) + (byteC (byteC (byteC x0).1).1).2) x1), ()) [(Value.pointer (some ⟨b0, 0, none⟩)) = (Value.pointer (some ⟨b0, 0, none⟩))] h (by kernel_rfl) ⟨rfl, trivial⟩ (congrArg (a₁ := ((byteC (byteC (byteC x0).1).1).1, (Int.tmod ((((byteC x0).2 * 65536) + ((byteC (byteC x0).1).2 * 256)) + (byteC (byteC (byteC x0).1).1).2) x1))) (a₂ := belowC x0 x1) (fun (z : T53 × Int) => z.1) hr5) (congrArg (a₁ := ((byteC (byteC (byteC x0).1).1).1, (Int.tmod ((((byteC x0).2 * 65536) + ((byteC (byteC x0).1).2 * 256)) + (byteC (byteC (byteC x0).1).1).2) x1))) (a₂ := belowC x0 x1) (fun (z : T53 × Int) => (z.2, ())) hr5)
theorem below_ok {x : T53} {n : Int} (h : 0 ≤ x.2.1) : 0 ≤ (belowC x n).1.2.1 := by
 unfold belowC
 split
 ·exact h
 ·split
  ·exact byte_ok h
  ·exact byte_ok (byte_ok (byte_ok h))
theorem below_bd (x : T53) {n : Int} (h : 0 < n) : 0 ≤ (belowC x n).2 ∧ (belowC x n).2 < n := by
 unfold belowC
 rw [if_neg (by omega)]
 have hd1 := byte_bd x; have hd2 := byte_bd (byteC x).1; have hd3 := byte_bd (byteC (byteC x).1).1
 split
 ·exact LA.tmod_lt hd1.1 h
 ·exact LA.tmod_lt (by first | omega | (dsimp only; omega)) h

def onceC (x0 : T53) (x1 : Int) : T53 × Bool := ((belowC x0 x1).1, decide ((belowC x0 x1).2 = 0))
abbrev Q_spec_l1Once := (fun (x0 : T53) (x1 : Int) => 0 ≤ x0.2.1)
def B_spec_l1Once : BS := { t := 53, s := s53, dom := [(.int 3)], cod := [(.bool 4)], pre := fun y x => Q_spec_l1Once y x.1, upd := fun y x => (onceC y x.1).1, g := fun y x => ((onceC y x.1).2, ()) }
def S_spec_l1Once : Sum := bSum 28 B_spec_l1Once
def S_spec_l1Once_tab : List (Nat × Sum) := [(27, S_spec_l1Below)]
theorem S_spec_l1Once_ok : FnOK Try.prog 28 S_spec_l1Once := by
 refine at_enterB (B := B_spec_l1Once) 9 (fun v y x => ⟨[(0, aP 1 0), (1, aI x.1)], [(1, oX 53 [.ro (.u8 5) y.1, cI y.2.1, cI y.2.2]), (2, oP 1 v)]⟩) Try.func28 rfl (by kernel_rfl) (fun v y x => rfl) ?_
 rintro w0 Z0 b0 x0 ⟨x1, u⟩ a w
 revert x0 x1
 intro (x0 : T53) (x1 : Int) hpre hlens0 hlens h
 replace h : At w0 Z0 [b0] 9 ⟨[(0, aP 1 0), (1, aI x1)], [(1, oX 53 [.ro (.u8 5) x0.1, cI x0.2.1, cI x0.2.2]), (2, oP 1 (Value.pointer (some ⟨b0, 0, none⟩)))]⟩ a w := h
 replace hpre : Q_spec_l1Once x0 x1 := hpre
 have hl1 : List.length x0.1 ≤ 9223372036854775807 := hlens0.1.1
 have hu0 : u8L x0.1 := hlens0.1.2
 have hT : TabOK Try.prog S_spec_l1Once_tab := (.cons S_spec_l1Below_ok .nil)
 refine wp_seq ?_
 refine at_regq [] { ts := [0, 1, 4], os := [1, 2] } [] gamOK hT h (by kernel_rfl) trivial fun a w h => then_normal (wp_seq ?_)
 refine at_regq [] { ts := [4], os := [1, 2] } [B_spec_l1Below.pre x0 (x1, ())] gamOK hT h (by kernel_rfl) ⟨(by exact hpre), trivial⟩ fun a w h => then_normal (wp_ret ?_)
 have hr1 : (((belowC x0 x1).1, decide ((belowC x0 x1).2 = 0)) : T53 × Bool) = onceC x0 x1 := by rfl
 exact at_returnB (B := B_spec_l1Once) (c0 := x0) (x := (x1, ())) ((belowC x0 x1).1) (decide ((belowC x0 x1).2 = 0), ()) [(Value.pointer (some ⟨b0, 0, none⟩)) = (Value.pointer (some ⟨b0, 0, none⟩))] h (by kernel_rfl) ⟨rfl, trivial⟩ (congrArg (a₁ := ((belowC x0 x1).1, decide ((belowC x0 x1).2 = 0))) (a₂ := onceC x0 x1) (fun (z : T53 × Bool) => z.1) hr1) (congrArg (a₁ := ((belowC x0 x1).1, decide ((belowC x0 x1).2 = 0))) (a₂ := onceC x0 x1) (fun (z : T53 × Bool) => (z.2, ())) hr1)
theorem once_ok {x : T53} {n : Int} (h : 0 ≤ x.2.1) : 0 ≤ (onceC x n).1.2.1 := below_ok h

def bigF (x0 : (List Int)) : Bool := decide (((List.length x0 : Nat) : Int) > 1048576)
def S_laws_big : Sum := { fid := 4, dom := [s22], cod := [(.bool 4)], dp := true, fz := false, pre := fun x => True, g := fun x => ((bigF x.1), ()) }
def S_laws_big_tab : List (Nat × Sum) := []
theorem S_laws_big_ok : FnOK Try.prog 4 S_laws_big := by
 refine at_enter 6 (fun x => ⟨[(0, aF (.u8 5) x.1)], []⟩) Try.func4 rfl (by kernel_rfl) (fun x => rfl) ?_
 rintro w0 Z0 ⟨x0, u⟩ a w
 revert x0
 intro (x0 : (List Int)) hpre hlens h
 have hl1 : List.length x0 ≤ 9223372036854775807 := hlens.1.1
 have hu0 : u8L x0 := hlens.1.2
 have hT : TabOK Try.prog S_laws_big_tab := .nil
 refine wp_seq ?_
 refine at_regq [] { ts := [0, 2], os := [] } [] gamOK hT h (by kernel_rfl) trivial fun a w h => then_normal (wp_seq ?_)
 refine at_regq [] { ts := [2], os := [] } [] gamOK hT h (by kernel_rfl) trivial fun a w h => then_normal (wp_ret ?_)
 exact at_return (decide (((List.length x0 : Nat) : Int) > 1048576), ()) [] h (by kernel_rfl) trivial (congrArg (fun z => (z, ())) (show (decide (((List.length x0 : Nat) : Int) > 1048576)) = bigF x0 from by rfl))
theorem big_f {x : List Int} (h : bigF x = false) : List.length x ≤ 1048576 := by
 have := of_decide_eq_false h; omega

def atF (x0 : (List Int)) (x1 : Int) : Int := (if x1 < ((List.length x0 : Nat) : Int) then (x0.getD ((x1).toNat) 0) else (Int.tmod ((x1 * 31) + (((List.length x0 : Nat) : Int) * 7)) 256))
abbrev Q_laws_at := (fun (x0 : List Int) (x1 : Int) => List.length x0 ≤ 1048576 ∧ (0 ≤ x1 ∧ x1 ≤ 1048576))
def S_laws_at : Sum := { fid := 6, dom := [s22, (.int 3)], cod := [(.int 3)], dp := true, fz := false, pre := fun x => Q_laws_at x.1 x.2.1, g := fun x => ((atF x.1 x.2.1), ()) }
def S_laws_at_tab : List (Nat × Sum) := []
theorem S_laws_at_ok : FnOK Try.prog 6 S_laws_at := by
 refine at_enter 21 (fun x => ⟨[(0, aF (.u8 5) x.1), (1, aI x.2.1)], []⟩) Try.func6 rfl (by kernel_rfl) (fun x => rfl) ?_
 rintro w0 Z0 ⟨x0, x1, u⟩ a w
 revert x0 x1
 intro (x0 : (List Int)) (x1 : Int) hpre hlens h
 replace hpre : Q_laws_at x0 x1 := hpre
 have hl1 : List.length x0 ≤ 9223372036854775807 := hlens.1.1
 have hu0 : u8L x0 := hlens.1.2
 have hT : TabOK Try.prog S_laws_at_tab := .nil
 have hpz : List.length x0 ≤ 1048576 ∧ (0 ≤ x1 ∧ x1 ≤ 1048576) := hpre
 refine wp_seq ?_
 refine at_regq [] { ts := [0, 1, 4], os := [] } [] gamOK hT h (by kernel_rfl) trivial fun a w h => then_normal (wp_seq (wp_seq ?_))
 refine at_regq [] { ts := [0, 1, 4, 8], os := [] } [] gamOK hT h (by kernel_rfl) trivial fun a w h => then_normal ?_
 refine at_test (decide (x1 < ((List.length x0 : Nat) : Int))) h (by kernel_rfl) (fun h1 => ?_) (fun h1 => ?_)
 ·replace h1 : x1 < ((List.length x0 : Nat) : Int) := of_decide_eq_true h1
  have hu1 := getD_u8 hu0 x1.toNat
  refine wp_seq ?_
  refine at_regq [{}, {}, {}, {}, { hint := some (aI (x0.getD ((x1).toNat) 0)) }] { ts := [0, 1, 4], os := [] } [(0 : Int) ≤ x1 ∧ x1 < ((List.length x0 : Nat) : Int), (AV.p (.c (.v (.int .i64 (IntKind.i64.wrap ((x0.getD ((x1).toNat) 0)))))) = AV.p (.c (.v (.int .i64 ((x0.getD ((x1).toNat) 0))))))] gamOK hT h (by kernel_rfl) ⟨(by refine ⟨?_, ?_⟩ <;> (first | omega | (simp only [lsA]; omega) | (simp <;> omega))), hint_int (wrap_id ⟨by first | omega | (simp only [lsA]; omega) | (simp <;> omega), by first | omega | (simp only [lsA]; omega) | (simp <;> omega)⟩), trivial⟩ fun a w h => then_normal (wp_ret (then_ret ?_))
  exact at_return ((x0.getD ((x1).toNat) 0), ()) [] h (by kernel_rfl) trivial (congrArg (fun z => (z, ())) (show ((x0.getD ((x1).toNat) 0)) = atF x0 x1 from by first | rfl | (unfold atF; rw [if_pos h1])))
 ·replace h1 : ¬ (x1 < ((List.length x0 : Nat) : Int)) := of_decide_eq_false h1
  have hu1 := getD_u8 hu0 x1.toNat
  refine wp_skip (then_normal (wp_seq ?_))
  refine at_regq [{}, { nw := true }, {}, {}, { nw := true }, { nw := true }] { ts := [4], os := [] } [I64 (x1 * 31), I64 (((List.length x0 : Nat) : Int) * 7), I64 ((x1 * 31) + (((List.length x0 : Nat) : Int) * 7)), (256 : Int) ≠ 0] gamOK hT h (by kernel_rfl) ⟨⟨by first | omega | (simp only [lsA]; omega) | (simp <;> omega), by first | omega | (simp only [lsA]; omega) | (simp <;> omega)⟩, ⟨by first | omega | (simp only [lsA]; omega) | (simp <;> omega), by first | omega | (simp only [lsA]; omega) | (simp <;> omega)⟩, ⟨by first | omega | (simp only [lsA]; omega) | (simp <;> omega), by first | omega | (simp only [lsA]; omega) | (simp <;> omega)⟩, (by first | omega | (simp only [lsA]; omega) | (simp <;> omega)), trivial⟩ fun a w h => then_normal (wp_ret ?_)
  exact at_return ((Int.tmod ((x1 * 31) + (((List.length x0 : Nat) : Int) * 7)) 256), ()) [] h (by kernel_rfl) trivial (congrArg (fun z => (z, ())) (show ((Int.tmod ((x1 * 31) + (((List.length x0 : Nat) : Int) * 7)) 256)) = atF x0 x1 from by first | rfl | (unfold atF; rw [if_neg h1])))
theorem at_bd {x : List Int} (hu : u8L x) {i : Int} (h : 0 ≤ i) : 0 ≤ atF x i ∧ atF x i < 256 := by
 unfold atF; split
 ·exact getD_u8 hu _
 ·exact LA.tmod_lt (by omega) (by decide)

def hasF (x0 : (List Int)) (x1 : Int) : Bool := (if (List.any x0 (fun e => decide (e = x1))) = true then true else false)
def S_laws_contains : Sum := { fid := 9, dom := [s24, (.int 3)], cod := [(.bool 4)], dp := true, fz := false, pre := fun x => True, g := fun x => ((hasF x.1 x.2.1), ()) }
def S_laws_contains_tab : List (Nat × Sum) := []
theorem S_laws_contains_ok : FnOK Try.prog 9 S_laws_contains := by
 refine at_enter 18 (fun x => ⟨[(0, aF (.int 3) x.1), (1, aI x.2.1)], []⟩) Try.func9 rfl (by kernel_rfl) (fun x => rfl) ?_
 rintro w0 Z0 ⟨x0, x1, u⟩ a w
 revert x0 x1
 intro (x0 : (List Int)) (x1 : Int) hpre hlens h
 have hl1 : List.length x0 ≤ 9223372036854775807 := hlens.1.1
 have hT : TabOK Try.prog S_laws_contains_tab := .nil
 refine wp_seq ?_
 refine at_regq [] { ts := [0, 1, 4], os := [] } [] gamOK hT h (by kernel_rfl) trivial fun a w h => then_normal (wp_seq (wp_seq ?_))
 refine at_regq [] { ts := [0, 1, 4, 5], os := [] } [] gamOK hT h (by kernel_rfl) trivial fun a w h => then_normal (wp_block ?_)
 replace h := at_out (σ' := ⟨[(0, aF (.int 3) x0), (1, aI x1), (4, aB false), (5, aI 0)], []⟩) { ts := [0, 1, 4, 5], os := [] } h (by kernel_rfl)
 refine at_loop (fun i : Nat => (⟨[(0, aF (.int 3) x0), (1, aI x1), (4, aB false), (5, aI ((i : Nat) : Int))], []⟩ : St)) (fun i => (i ≤ List.length x0 ∧ noneTo (fun e => decide (e = x1)) x0 0 i)) (fun i => List.length x0 - i) (0) h (st_congr1 (fun (d0 : Int) => (⟨[(0, aF (.int 3) x0), (1, aI x1), (4, aB false), (5, aI d0)], []⟩ : St)) (show (0 : Int) = (((0) : Nat) : Int) from by first | with_reducible rfl | (rfl) | rfl)) (by exact ⟨Nat.zero_le _, noneTo_zero⟩) ?_
 intro i a w hok0 h
 refine wp_seq (wp_seq ?_)
 refine at_regq [] { ts := [0, 1, 4, 5, 9], os := [] } [] gamOK hT h (by kernel_rfl) trivial fun a w h => then_normal ?_
 refine at_test (decide (((i : Nat) : Int) < ((List.length x0 : Nat) : Int))) h (by kernel_rfl) (fun h1 => ?_) (fun h1 => ?_)
 ·replace h1 : ((i : Nat) : Int) < ((List.length x0 : Nat) : Int) := of_decide_eq_true h1
  refine wp_skip (then_normal (wp_seq (wp_block (wp_seq ?_))))
  refine at_regq [] { ts := [0, 1, 4, 5, 17], os := [] } [(0 : Int) ≤ ((i : Nat) : Int) ∧ ((i : Nat) : Int) < ((List.length x0 : Nat) : Int)] gamOK hT h (by kernel_rfl) ⟨(by refine ⟨?_, ?_⟩ <;> (first | omega | (simp only [lsA]; omega) | (simp <;> omega))), trivial⟩ fun a w h => then_normal ?_
  refine at_test (decide ((x0.getD i 0) = x1)) h (by kernel_rfl) (fun h2 => ?_) (fun h2 => ?_)
  ·replace h2 : (x0.getD i 0) = x1 := of_decide_eq_true h2
   refine wp_seq ?_
   refine at_regq [] { ts := [0, 1, 4, 5], os := [] } [] gamOK hT h (by kernel_rfl) trivial fun a w h => then_normal (wp_ret (in_ret (then_ret ?_)))
   have hs3 : (!(List.any x0 (fun e => decide (e = x1)))) = false := by exact notT' (any_at (z := 0) (i := i) (by omega) (by exact decide_eq_true (by assumption)))
   replace hs3 : (List.any x0 (fun e => decide (e = x1))) = true := notF hs3
   refine then_ret (in_ret (then_ret ?_))
   exact at_return (true, ()) [] h (by kernel_rfl) trivial (congrArg (fun z => (z, ())) (show (true) = hasF x0 x1 from by first | rfl | (unfold hasF; rw [if_pos hs3])))
  ·replace h2 : ¬ ((x0.getD i 0) = x1) := of_decide_eq_false h2
   refine wp_skip (in_normal (then_normal ?_))
   refine at_regq [{}, { nw := true }] { ts := [0, 1, 4, 5], os := [] } [I64 (((i : Nat) : Int) + 1)] gamOK hT h (by kernel_rfl) ⟨⟨by first | omega | (simp only [lsA]; omega) | (simp <;> omega), by first | omega | (simp only [lsA]; omega) | (simp <;> omega)⟩, trivial⟩ fun a w h => ?_
   replace h := at_out (σ' := ⟨[(0, aF (.int 3) x0), (1, aI x1), (4, aB false), (5, aI (((i : Nat) : Int) + 1))], []⟩) { ts := [0, 1, 4, 5], os := [] } h (by kernel_rfl)
   exact ⟨i + 1, at_eq h (st_congr1 (fun (d0 : Int) => (⟨[(0, aF (.int 3) x0), (1, aI x1), (4, aB false), (5, aI d0)], []⟩ : St)) (show (((i : Nat) : Int) + 1 : Int) = (((i + 1) : Nat) : Int) from by first | with_reducible rfl | (omega) | rfl)), (by exact ⟨by omega, noneTo_succ hok0.2 (by exact decide_eq_false (by assumption))⟩), (by omega)⟩
 ·replace h1 : ¬ (((i : Nat) : Int) < ((List.length x0 : Nat) : Int)) := of_decide_eq_false h1
  refine wp_exit (then_exit ?_)
  have hs4 : (!(List.any x0 (fun e => decide (e = x1)))) = true := by exact notF' (any_of (z := 0) (i := i) (by omega) hok0.2)
  replace hs4 : (List.any x0 (fun e => decide (e = x1))) = false := notT hs4
  refine then_exit (in_hit (then_normal (wp_seq ?_)))
  refine at_regq [] { ts := [4], os := [] } [] gamOK hT h (by kernel_rfl) trivial fun a w h => then_normal (wp_ret ?_)
  exact at_return (false, ()) [] h (by kernel_rfl) trivial (congrArg (fun z => (z, ())) (show (false) = hasF x0 x1 from by first | rfl | (unfold hasF; rw [if_neg (neT hs4)])))
theorem hasF_iff {l : List Int} {n : Int} : hasF l n = true ↔ n ∈ l := by
 unfold hasF
 simp [List.any_eq_true]

def memKey (x0 : Int) (x1 : Int) : Int := (D_impl_orOne (keyed x0 ([91, x1])))

theorem hashS_dvd (d v : Int) (hd : 0 ≤ d) : (2147483647 : Int) ∣ hashS d v - (d * 1000003 + v + 13) := by
  unfold hashS
  have h1 := modF_bd v
  have h2 : (2147483647 : Int) ∣ modF v 2147483647 - v := by
    unfold modF
    rw [if_pos (by decide)]
    have a1 := tmod_f v 2147483647 (by decide)
    have a2 := Int.tmod_add_mul_tdiv v 2147483647
    have a3 := Int.tmod_add_mul_tdiv (v.tmod 2147483647 + 2147483647) 2147483647
    exact ⟨1 - v.tdiv 2147483647 - (v.tmod 2147483647 + 2147483647).tdiv 2147483647, by omega⟩
  obtain ⟨q, hq⟩ := h2
  have a3 := Int.tmod_add_mul_tdiv (d * 1000003 + modF v 2147483647 + 13) 2147483647
  exact ⟨q - (d * 1000003 + modF v 2147483647 + 13).tdiv 2147483647, by omega⟩
theorem hashS_ge (d v : Int) (hd : 0 ≤ d) : 0 ≤ hashS d v := by
  unfold hashS
  have h1 := modF_bd v
  exact Int.tmod_nonneg _ (by omega)
/-- two hashes that differ in one place, so far -/
theorem hashS_two {d d' v v' e : Int} (hd : 0 ≤ d) (hd' : 0 ≤ d') (h : (2147483647 : Int) ∣ d - d' - e) : (2147483647 : Int) ∣ hashS d v - hashS d' v' - (e * 1000003 + (v - v')) := by
  obtain ⟨q, hq⟩ := h
  obtain ⟨q1, h1⟩ := hashS_dvd d v hd
  obtain ⟨q2, h2⟩ := hashS_dvd d' v' hd'
  exact ⟨q * 1000003 + q1 - q2, by omega⟩
theorem prime_cancel {c u e : Int} (hu : (2147483647 : Int) ∣ u * c - 1) (h : (2147483647 : Int) ∣ c * e) : (2147483647 : Int) ∣ e := by
  obtain ⟨q, hq⟩ := h
  obtain ⟨r, hr⟩ := hu
  refine ⟨u * q - r * e, ?_⟩
  have e1 : u * (c * e) = u * (2147483647 * q) := by rw [hq]
  have e2 : u * c = 2147483647 * r + 1 := by omega
  have e3 : u * (c * e) = (u * c) * e := by rw [Int.mul_assoc]
  rw [e3, e2, Int.add_mul, Int.one_mul] at e1
  have e4 : u * (2147483647 * q) = 2147483647 * (u * q) := by rw [← Int.mul_assoc, Int.mul_comm u, Int.mul_assoc]
  rw [e4, Int.mul_assoc] at e1
  rw [Int.mul_sub]; omega
theorem keyed3 (k a b c : Int) : keyed k [a, b, c] = hashS (hashS (hashS (hashS (hashS 11 k) a) b) c) k := by
  unfold keyed hashF; simp only [List.cons_append, List.nil_append, List.foldl_cons, List.foldl_nil]
theorem keyed2 (k a b : Int) : keyed k [a, b] = hashS (hashS (hashS (hashS 11 k) a) b) k := by
  unfold keyed hashF; simp only [List.cons_append, List.nil_append, List.foldl_cons, List.foldl_nil]
theorem key_diff {z k k' a b c : Int} (s5 : (2147483647 : Int) ∣ z - z - (((((0 * 1000003 + (k - k')) * 1000003 + (a - a)) * 1000003 + (b - b)) * 1000003 + (c - c)) * 1000003 + (k - k'))) (hk : 0 ≤ k ∧ k < 2147483647) (hk' : 0 ≤ k' ∧ k' < 2147483647) : k = k' := by
  have s6 : (2147483647 : Int) ∣ 1000012000054000108000082 * (k - k') := by
    obtain ⟨q, hq⟩ := s5
    refine ⟨-q, ?_⟩
    simp only [Int.sub_self, Int.zero_mul, Int.zero_add, Int.add_zero, Int.zero_sub] at hq
    generalize k - k' = d at hq ⊢
    have e : d * 1000003 * 1000003 * 1000003 * 1000003 + d = 1000012000054000108000082 * d := by omega
    rw [e] at hq
    have h2 := congrArg (fun z : Int => -z) hq
    simp only [Int.neg_neg] at h2
    rw [h2, Int.mul_neg]
  have hu : (2147483647 : Int) ∣ 862245900 * 1000012000054000108000082 - 1 := ⟨401519354152903298789417, by decide⟩
  have s7 := prime_cancel hu s6
  clear s5 s6 hu
  obtain ⟨q, hq⟩ := s7
  omega
/-- hashes of three numbers by two keys -/
theorem keyed3_inj {k k' a b c : Int} (h : keyed k [a, b, c] = keyed k' [a, b, c]) (hk : 0 ≤ k ∧ k < 2147483647) (hk' : 0 ≤ k' ∧ k' < 2147483647) : k = k' := by
  have s0 : (2147483647 : Int) ∣ (11 : Int) - 11 - 0 := ⟨0, by decide⟩
  have g1 := hashS_ge 11 k (by decide); have g1' := hashS_ge 11 k' (by decide)
  have s1 := hashS_two (v := k) (v' := k') (by decide) (by decide) s0
  have g2 := hashS_ge _ a g1; have g2' := hashS_ge _ a g1'
  have s2 := hashS_two (v := a) (v' := a) g1 g1' s1
  have g3 := hashS_ge _ b g2; have g3' := hashS_ge _ b g2'
  have s3 := hashS_two (v := b) (v' := b) g2 g2' s2
  have g4 := hashS_ge _ c g3; have g4' := hashS_ge _ c g3'
  have s4 := hashS_two (v := c) (v' := c) g3 g3' s3
  have s5 := hashS_two (v := k) (v' := k') g4 g4' s4
  rw [keyed3, keyed3] at h
  rw [h] at s5
  clear h g1 g1' g2 g2' g3 g3' g4 g4' s0 s1 s2 s3 s4
  generalize hashS (hashS (hashS (hashS (hashS 11 k') a) b) c) k' = z at s5
  exact key_diff s5 hk hk'
/-- keys of two members -/
theorem keyed2_two {k a b b' : Int} : (2147483647 : Int) ∣ keyed k [a, b] - keyed k [a, b'] - 1000003 * (b - b') := by
  have g1 := hashS_ge 11 k (by decide)
  have g2 := hashS_ge _ a g1
  have s2 : (2147483647 : Int) ∣ hashS (hashS 11 k) a - hashS (hashS 11 k) a - 0 := ⟨0, by omega⟩
  have g3 := hashS_ge _ b g2; have g3' := hashS_ge _ b' g2
  have s3 := hashS_two (v := b) (v' := b') g2 g2 s2
  have s4 := hashS_two (v := k) (v' := k) g3 g3' s3
  obtain ⟨q, hq⟩ := s4
  refine ⟨q, ?_⟩
  rw [keyed2, keyed2]
  omega
def S_impl_MemberKey : Sum := { fid := 13, dom := [(.int 3), (.int 3)], cod := [(.int 3)], dp := true, fz := false, pre := fun x => True, g := fun x => ((memKey x.1 x.2.1), ()) }
def S_impl_MemberKey_tab : List (Nat × Sum) := [(24, S_impl_KeyedHash), (26, S_impl_orOne)]
theorem S_impl_MemberKey_ok : FnOK Try.prog 13 S_impl_MemberKey := by
 refine at_enter 10 (fun x => ⟨[(0, aI x.1), (1, aI x.2.1)], []⟩) Try.func13 rfl (by kernel_rfl) (fun x => rfl) ?_
 rintro w0 Z0 ⟨x0, x1, u⟩ a w
 revert x0 x1
 intro (x0 : Int) (x1 : Int) hpre hlens h
 have hT : TabOK Try.prog S_impl_MemberKey_tab := (.cons S_impl_KeyedHash_ok (.cons S_impl_orOne_ok .nil))
 refine wp_seq ?_
 refine at_regq [] { ts := [0, 1, 4], os := [] } [] gamOK hT h (by kernel_rfl) trivial fun a w h => then_normal (wp_seq ?_)
 refine at_regq [{}, {}, { ids := [1] }] { ts := [4], os := [] } [pKey x0 ([91, x1]), True] gamOK hT h (by kernel_rfl) ⟨(by (show _ ≤ _; simp; try omega)), trivial, trivial⟩ fun a w h => then_normal (wp_ret ?_)
 exact at_return ((D_impl_orOne (keyed x0 ([91, x1]))), ()) [] h (by kernel_rfl) trivial (congrArg (fun z => (z, ())) (show ((D_impl_orOne (keyed x0 ([91, x1])))) = memKey x0 x1 from by rfl))

def grpKey (x0 : Int) (x1 : Int) : Int := (D_impl_orOne (keyed x0 ([93, x1])))
def S_impl_GroupKey : Sum := { fid := 23, dom := [(.int 3), (.int 3)], cod := [(.int 3)], dp := true, fz := false, pre := fun x => True, g := fun x => ((grpKey x.1 x.2.1), ()) }
def S_impl_GroupKey_tab : List (Nat × Sum) := [(24, S_impl_KeyedHash), (26, S_impl_orOne)]
theorem S_impl_GroupKey_ok : FnOK Try.prog 23 S_impl_GroupKey := by
 refine at_enter 10 (fun x => ⟨[(0, aI x.1), (1, aI x.2.1)], []⟩) Try.func23 rfl (by kernel_rfl) (fun x => rfl) ?_
 rintro w0 Z0 ⟨x0, x1, u⟩ a w
 revert x0 x1
 intro (x0 : Int) (x1 : Int) hpre hlens h
 have hT : TabOK Try.prog S_impl_GroupKey_tab := (.cons S_impl_KeyedHash_ok (.cons S_impl_orOne_ok .nil))
 refine wp_seq ?_
 refine at_regq [] { ts := [0, 1, 4], os := [] } [] gamOK hT h (by kernel_rfl) trivial fun a w h => then_normal (wp_seq ?_)
 refine at_regq [{}, {}, { ids := [1] }] { ts := [4], os := [] } [pKey x0 ([93, x1]), True] gamOK hT h (by kernel_rfl) ⟨(by (show _ ≤ _; simp; try omega)), trivial, trivial⟩ fun a w h => then_normal (wp_ret ?_)
 exact at_return ((D_impl_orOne (keyed x0 ([93, x1]))), ()) [] h (by kernel_rfl) trivial (congrArg (fun z => (z, ())) (show ((D_impl_orOne (keyed x0 ([93, x1])))) = grpKey x0 x1 from by rfl))
theorem orOne_bd {h : Int} (h1 : 0 ≤ h ∧ h < 2147483647) : 1 ≤ D_impl_orOne h ∧ D_impl_orOne h < 2147483647 := by
 unfold D_impl_orOne; (repeat' split) <;> omega
theorem memKey_bd (a m : Int) : 1 ≤ memKey a m ∧ memKey a m < 2147483647 := orOne_bd (keyed_bd _ _)
theorem memKey_inj {a m m' : Int} (h : memKey a m = memKey a m') (hm : 0 ≤ m ∧ m ≤ 7) (hm' : 0 ≤ m' ∧ m' ≤ 7) : m = m' := by
 have h1 := keyed_bd a [91, m]; have h2 := keyed_bd a [91, m']
 obtain ⟨q, hq⟩ := keyed2_two (k := a) (a := 91) (b := m) (b' := m')
 have h3 := h
 unfold memKey at h3
 generalize keyed a [91, m] = u at *
 generalize keyed a [91, m'] = u' at *
 have h4 : u - u' = 0 ∨ u - u' = 1 ∨ u - u' = -1 := by
  unfold D_impl_orOne at h3
  clear hq
  (repeat' split at h3) <;> omega
 have b1 : u - u' - 1000003 * (m - m') < 2147483647 := by clear hq; omega
 have b2 : -2147483647 < u - u' - 1000003 * (m - m') := by clear hq; omega
 rw [hq] at b1 b2
 have hq0 : q = 0 := by clear hq; omega
 subst hq0
 rw [Int.mul_zero] at hq
 omega
theorem grpKey_bd (a m : Int) : 1 ≤ grpKey a m ∧ grpKey a m < 2147483647 := orOne_bd (keyed_bd _ _)


def wrapOne (g : T26) (m : Int) : T36 := (m, g.2.1, (grpKey g.1 g.2.1 + keyed (memKey g.1 m) [95, g.2.1]).tmod 2147483647, keyed (memKey g.1 m) [97, g.2.1, (grpKey g.1 g.2.1 + keyed (memKey g.1 m) [95, g.2.1]).tmod 2147483647])
def wrapD (g : T26) : List T36 := if validGroup g = true then List.map (wrapOne g) g.2.2 else []
theorem wrapD_y {g : T26} (h : validGroup g = true) : List.map (wrapOne g) g.2.2 = wrapD g := (if_pos h).symm
theorem wrapD_n {g : T26} (h : validGroup g = false) : [] = wrapD g := (if_neg (by rw [h]; decide)).symm
abbrev Q_impl_WrapKeys := (fun (x0 : T26) => Sh.fit s26 x0)
def S_impl_WrapKeys : Sum := { fid := 11, dom := [s26], cod := [s33], dp := true, fz := false, pre := fun x => Q_impl_WrapKeys x.1, g := fun x => ((wrapD x.1), ()) }
def S_impl_WrapKeys_tab : List (Nat × Sum) := [(8, S_impl_IsValidGroup), (13, S_impl_MemberKey), (23, S_impl_GroupKey), (24, S_impl_KeyedHash)]
theorem S_impl_WrapKeys_ok : FnOK Try.prog 11 S_impl_WrapKeys := by
 refine at_enter 50 (fun x => ⟨[(0, aG [cI x.1.1, cI x.1.2.1, .ro (.int 3) x.1.2.2])], []⟩) Try.func11 rfl (by kernel_rfl) (fun x => rfl) ?_
 rintro w0 Z0 ⟨x0, u⟩ a w
 revert x0
 intro (x0 : T26) hpre hlens h
 replace hpre : Q_impl_WrapKeys x0 := hpre
 have hT : TabOK Try.prog S_impl_WrapKeys_tab := (.cons S_impl_IsValidGroup_ok (.cons S_impl_MemberKey_ok (.cons S_impl_GroupKey_ok (.cons S_impl_KeyedHash_ok .nil))))
 have hf0 : Sh.fit s26 x0 := hpre
 have hn0_1 : List.length x0.2.2 ≤ 1073741824 := hf0.2.2.1
 refine wp_seq ?_
 refine at_regq [{ ids := [1] }] { ts := [1, 2], os := [1] } [] gamOK hT h (by kernel_rfl) trivial fun a w h => then_normal (wp_seq (wp_seq ?_))
 refine at_regq [] { ts := [1, 2, 10], os := [1] } [Q_impl_IsValidGroup x0] gamOK hT h (by kernel_rfl) ⟨(by exact hf0), trivial⟩ fun a w h => then_normal ?_
 refine at_test (!(validGroup x0)) h (by kernel_rfl) (fun h1 => ?_) (fun h1 => ?_)
 ·replace h1 : (validGroup x0) = false := notT h1
  refine wp_seq ?_
  refine at_regq [] { ts := [1, 2], os := [1] } [] gamOK hT h (by kernel_rfl) trivial fun a w h => then_normal (wp_ret (then_ret ?_))
  exact at_return (([] : List T36), ()) [] h (by kernel_rfl) trivial (congrArg (fun z => (z, ())) (show (([] : List T36)) = wrapD x0 from by first | exact wrapD_n (by assumption) | exact wrapD_y (by assumption)))
 ·replace h1 : (validGroup x0) = true := notF h1
  have hvh1 := validGroup_t h1
  refine wp_skip (then_normal (wp_seq ?_))
  refine at_regq [] { ts := [1, 2, 3], os := [1] } [] gamOK hT h (by kernel_rfl) trivial fun a w h => then_normal (wp_seq (wp_seq ?_))
  refine at_regq [] { ts := [1, 2, 3, 12, 13, 14], os := [1] } [] gamOK hT h (by kernel_rfl) trivial fun a w h => then_normal (wp_block ?_)
  replace h := at_out (σ' := ⟨[(1, aP 1 0), (2, .p (.c (cN))), (3, aS 2), (12, aF (.int 3) x0.2.2), (13, aI ((List.length x0.2.2 : Nat) : Int)), (14, aI 0)], [(1, oX 26 [cI x0.1, cI x0.2.1, .ro (.int 3) x0.2.2]), (2, oR s36 ([] : List T36))]⟩) { mt := [⟨none, 3, 2, true, s36⟩], ts := [1, 2, 3, 12, 13, 14], os := [1, 2] } h (by kernel_rfl)
  refine at_loop (fun i : Nat => (⟨[(1, aP 1 0), (2, .p (.c (cN))), (3, aS 2), (12, aF (.int 3) x0.2.2), (13, aI ((List.length x0.2.2 : Nat) : Int)), (14, aI ((i : Nat) : Int))], [(1, oX 26 [cI x0.1, cI x0.2.1, .ro (.int 3) x0.2.2]), (2, oR s36 (List.map (wrapOne x0) (List.take i x0.2.2)))]⟩ : St)) (fun i => i ≤ List.length x0.2.2) (fun i => List.length x0.2.2 - i) (0) h (st_congr2 (fun (d0 : List T36) (d1 : Int) => (⟨[(1, aP 1 0), (2, .p (.c (cN))), (3, aS 2), (12, aF (.int 3) x0.2.2), (13, aI ((List.length x0.2.2 : Nat) : Int)), (14, aI d1)], [(1, oX 26 [cI x0.1, cI x0.2.1, .ro (.int 3) x0.2.2]), (2, oR s36 d0)]⟩ : St)) (show (([] : List T36) : List T36) = (List.map (wrapOne x0) (List.take (0) x0.2.2)) from by first | with_reducible rfl | (first | rfl | simp) | rfl) (show (0 : Int) = (((0) : Nat) : Int) from by first | with_reducible rfl | (first | rfl | simp) | rfl)) (by omega) ?_
  intro i a w hok0 h
  have hlt0 := len_take_le (xs := x0.2.2) i
  have hk1 := keyed_bd (memKey x0.1 (x0.2.2.getD i 0)) [95, x0.2.1]
  have hk2 := grpKey_bd x0.1 x0.2.1
  refine wp_seq ?_
  refine at_regq [] { ts := [1, 2, 3, 12, 13, 14, 15], os := [1, 2] } [] gamOK hT h (by kernel_rfl) trivial fun a w h => then_normal (wp_seq ?_)
  refine at_test (decide (((i : Nat) : Int) < ((List.length x0.2.2 : Nat) : Int))) h (by kernel_rfl) (fun h2 => ?_) (fun h2 => ?_)
  ·replace h2 : ((i : Nat) : Int) < ((List.length x0.2.2 : Nat) : Int) := of_decide_eq_true h2
   refine wp_skip (then_normal (wp_seq (wp_block (wp_seq ?_))))
   refine at_regq [] { ts := [1, 2, 3, 5, 12, 13, 14], os := [1, 2] } [(0 : Int) ≤ ((i : Nat) : Int) ∧ ((i : Nat) : Int) < ((List.length x0.2.2 : Nat) : Int)] gamOK hT h (by kernel_rfl) ⟨(by refine ⟨?_, ?_⟩ <;> (first | omega | (simp only [lsA]; omega) | (simp <;> omega))), trivial⟩ fun a w h => then_normal (wp_seq ?_)
   refine at_regq [] { ts := [1, 2, 3, 5, 6, 12, 13, 14], os := [1, 2] } [True] gamOK hT h (by kernel_rfl) ⟨trivial, trivial⟩ fun a w h => then_normal (wp_seq ?_)
   refine at_anyq [{}, {}, {}, {}, {}, {}, {}, {}, { ids := [3] }, {}, { nw := true }, {}, {}] { ts := [1, 2, 3, 5, 6, 7, 12, 13, 14], os := [1, 2] } [True, pKey (memKey x0.1 (x0.2.2.getD i 0)) ([95, x0.2.1]), I64 ((grpKey x0.1 x0.2.1) + (keyed (memKey x0.1 (x0.2.2.getD i 0)) ([95, x0.2.1]))), (2147483647 : Int) ≠ 0] gamOK hT mixed h (by kernel_rfl) ⟨trivial, (by (show _ ≤ _; simp; try omega)), ⟨by first | omega | (simp only [lsA]; omega) | (simp <;> omega), by first | omega | (simp only [lsA]; omega) | (simp <;> omega)⟩, (by first | omega | (simp only [lsA]; omega) | (simp <;> omega)), trivial⟩ fun a w h => then_normal ?_
   refine at_anyq [{}, {}, {}, {}, {}, {}, {}, {}, {}, { ids := [4] }, {}, {}, { ids := [5] }, { ids := [6] }, {}] { ts := [1, 2, 3, 12, 13, 14], os := [1, 6] } [pKey (memKey x0.1 (x0.2.2.getD i 0)) ([97, x0.2.1, (Int.tmod ((grpKey x0.1 x0.2.1) + (keyed (memKey x0.1 (x0.2.2.getD i 0)) ([95, x0.2.1]))) 2147483647)]), (List.length (List.map (wrapOne x0) (List.take i x0.2.2)) + List.length ([((x0.2.2.getD i 0), (x0.2.1, ((Int.tmod ((grpKey x0.1 x0.2.1) + (keyed (memKey x0.1 (x0.2.2.getD i 0)) ([95, x0.2.1]))) 2147483647), (keyed (memKey x0.1 (x0.2.2.getD i 0)) ([97, x0.2.1, (Int.tmod ((grpKey x0.1 x0.2.1) + (keyed (memKey x0.1 (x0.2.2.getD i 0)) ([95, x0.2.1]))) 2147483647)])))))])) * 32 ≤ 140737488355328] gamOK hT mixed h (by kernel_rfl) ⟨(by (show _ ≤ _; simp; try omega)), (by (have hA0 := tmod_f ((grpKey x0.1 x0.2.1) + (keyed (memKey x0.1 (x0.2.2.getD i 0)) ([95, x0.2.1]))) 2147483647; first | omega | (simp only [lsA]; omega) | (simp <;> omega))), trivial⟩ fun a w h => in_normal (then_normal ?_)
   refine at_regq [{ nw := true }] { ts := [1, 2, 3, 12, 13, 14], os := [1, 6] } [I64 (((i : Nat) : Int) + 1)] gamOK hT h (by kernel_rfl) ⟨⟨by first | omega | (simp only [lsA]; omega) | (simp <;> omega), by first | omega | (simp only [lsA]; omega) | (simp <;> omega)⟩, trivial⟩ fun a w h => ?_
   replace h := at_out (σ' := ⟨[(1, aP 1 0), (2, .p (.c (cN))), (3, aS 2), (12, aF (.int 3) x0.2.2), (13, aI ((List.length x0.2.2 : Nat) : Int)), (14, aI (((i : Nat) : Int) + 1))], [(1, oX 26 [cI x0.1, cI x0.2.1, .ro (.int 3) x0.2.2]), (2, oR s36 ((List.map (wrapOne x0) (List.take i x0.2.2)) ++ ([((x0.2.2.getD i 0), (x0.2.1, ((Int.tmod ((grpKey x0.1 x0.2.1) + (keyed (memKey x0.1 (x0.2.2.getD i 0)) ([95, x0.2.1]))) 2147483647), (keyed (memKey x0.1 (x0.2.2.getD i 0)) ([97, x0.2.1, (Int.tmod ((grpKey x0.1 x0.2.1) + (keyed (memKey x0.1 (x0.2.2.getD i 0)) ([95, x0.2.1]))) 2147483647)])))))])))]⟩) { ts := [1, 2, 3, 12, 13, 14], os := [1, 6], rn := [(6, 2)] } h (by kernel_rfl)
   exact ⟨i + 1, at_eq h (st_congr2 (fun (d0 : List T36) (d1 : Int) => (⟨[(1, aP 1 0), (2, .p (.c (cN))), (3, aS 2), (12, aF (.int 3) x0.2.2), (13, aI ((List.length x0.2.2 : Nat) : Int)), (14, aI d1)], [(1, oX 26 [cI x0.1, cI x0.2.1, .ro (.int 3) x0.2.2]), (2, oR s36 d0)]⟩ : St)) (show (((List.map (wrapOne x0) (List.take i x0.2.2)) ++ ([((x0.2.2.getD i 0), (x0.2.1, ((Int.tmod ((grpKey x0.1 x0.2.1) + (keyed (memKey x0.1 (x0.2.2.getD i 0)) ([95, x0.2.1]))) 2147483647), (keyed (memKey x0.1 (x0.2.2.getD i 0)) ([97, x0.2.1, (Int.tmod ((grpKey x0.1 x0.2.1) + (keyed (memKey x0.1 (x0.2.2.getD i 0)) ([95, x0.2.1]))) 2147483647)])))))])) : List T36) = (List.map (wrapOne x0) (List.take (i + 1) x0.2.2)) from by first | with_reducible rfl | (exact (map_snoc (z := 0) (by omega)).symm) | rfl) (show (((i : Nat) : Int) + 1 : Int) = (((i + 1) : Nat) : Int) from by first | with_reducible rfl | (omega) | rfl)), (by omega), (by omega)⟩
  ·replace h2 : ¬ (((i : Nat) : Int) < ((List.length x0.2.2 : Nat) : Int)) := of_decide_eq_false h2
   refine wp_exit (then_exit ?_)
   replace h := at_out (σ' := ⟨[(2, .p (.c (cN))), (3, aS 2)], [(2, oR s36 (List.map (wrapOne x0) (List.take i x0.2.2)))]⟩) { ts := [2, 3], os := [2] } h (by kernel_rfl)
   replace h := at_eq (σ' := ⟨[(2, .p (.c (cN))), (3, aS 2)], [(2, oR s36 (List.map (wrapOne x0) x0.2.2))]⟩) h (st_congr1 (fun (d0 : List T36) => (⟨[(2, .p (.c (cN))), (3, aS 2)], [(2, oR s36 d0)]⟩ : St)) (show ((List.map (wrapOne x0) (List.take i x0.2.2)) : List T36) = (List.map (wrapOne x0) x0.2.2) from by first | with_reducible rfl | (rw [take_all (by omega)]) | rfl))
   refine then_exit (in_hit (then_normal (wp_seq ?_)))
   refine at_regq [] { ts := [2], os := [2] } [] gamOK hT h (by kernel_rfl) trivial fun a w h => then_normal (wp_ret ?_)
   exact at_return ((List.map (wrapOne x0) x0.2.2), ()) [] h (by kernel_rfl) trivial (congrArg (fun z => (z, ())) (show ((List.map (wrapOne x0) x0.2.2)) = wrapD x0 from by first | exact wrapD_n (by assumption) | exact wrapD_y (by assumption)))

def unwrapD (x0 : Int) (x1 : T36) : Int × Bool := (if x1.2.2.2 = (keyed x0 ([97, x1.2.1, x1.2.2.1])) then ((modF (x1.2.2.1 - (keyed x0 ([95, x1.2.1]))) 2147483647), true) else (0, false))
abbrev Q_impl_UnwrapKey := (fun (x0 : Int) (x1 : T36) => 0 ≤ x1.2.2.1 ∧ x1.2.2.1 ≤ 4294967296)
def S_impl_UnwrapKey : Sum := { fid := 12, dom := [(.int 3), s36], cod := [(.int 3), (.bool 4)], dp := true, fz := false, pre := fun x => Q_impl_UnwrapKey x.1 x.2.1, g := fun x => ((unwrapD x.1 x.2.1).1, ((unwrapD x.1 x.2.1).2, ())) }
def S_impl_UnwrapKey_tab : List (Nat × Sum) := [(24, S_impl_KeyedHash), (25, S_impl_Mod)]
theorem S_impl_UnwrapKey_ok : FnOK Try.prog 12 S_impl_UnwrapKey := by
 refine at_enter 25 (fun x => ⟨[(0, aI x.1), (1, aG [cI x.2.1.1, cI x.2.1.2.1, cI x.2.1.2.2.1, cI x.2.1.2.2.2])], []⟩) Try.func12 rfl (by kernel_rfl) (fun x => rfl) ?_
 rintro w0 Z0 ⟨x0, x1, u⟩ a w
 revert x0 x1
 intro (x0 : Int) (x1 : T36) hpre hlens h
 replace hpre : Q_impl_UnwrapKey x0 x1 := hpre
 have hT : TabOK Try.prog S_impl_UnwrapKey_tab := (.cons S_impl_KeyedHash_ok (.cons S_impl_Mod_ok .nil))
 have hp : 0 ≤ x1.2.2.1 ∧ x1.2.2.1 ≤ 4294967296 := hpre
 have hk1 := keyed_bd x0 [95, x1.2.1]
 refine wp_seq ?_
 refine at_regq [{ ids := [1] }] { ts := [0, 3, 4, 5], os := [1] } [] gamOK hT h (by kernel_rfl) trivial fun a w h => then_normal (wp_seq (wp_seq ?_))
 refine at_anyq [{}, {}, {}, {}, {}, {}, {}, { ids := [2] }, {}, {}] { ts := [0, 3, 4, 5, 15], os := [1] } [pKey x0 ([97, x1.2.1, x1.2.2.1])] gamOK hT mixed h (by kernel_rfl) ⟨(by (show _ ≤ _; simp; try omega)), trivial⟩ fun a w h => then_normal ?_
 refine at_test (!decide (x1.2.2.2 = (keyed x0 ([97, x1.2.1, x1.2.2.1])))) h (by kernel_rfl) (fun h1 => ?_) (fun h1 => ?_)
 ·replace h1 : ¬ (x1.2.2.2 = (keyed x0 ([97, x1.2.1, x1.2.2.1]))) := of_decide_eq_false (notT h1)
  refine wp_seq ?_
  refine at_regq [] { ts := [0, 3, 4, 5], os := [1] } [] gamOK hT h (by kernel_rfl) trivial fun a w h => then_normal (wp_ret (then_ret ?_))
  exact at_return (0, (false, ())) [] h (by kernel_rfl) trivial (congrArg (fun z => (z.1, z.2, ())) (show ((0, false)) = unwrapD x0 x1 from by first | rfl | (unfold unwrapD; rw [if_neg h1])))
 ·replace h1 : x1.2.2.2 = (keyed x0 ([97, x1.2.1, x1.2.2.1])) := of_decide_eq_true (notF h1)
  refine wp_skip (then_normal (wp_seq ?_))
  refine at_anyq [{}, {}, {}, {}, {}, { ids := [3] }, {}, { nw := true }, {}, {}, {}] { ts := [4, 5], os := [] } [pKey x0 ([95, x1.2.1]), I64 (x1.2.2.1 - (keyed x0 ([95, x1.2.1]))), True] gamOK hT mixed h (by kernel_rfl) ⟨(by (show _ ≤ _; simp; try omega)), ⟨by first | omega | (simp only [lsA]; omega) | (simp <;> omega), by first | omega | (simp only [lsA]; omega) | (simp <;> omega)⟩, trivial, trivial⟩ fun a w h => then_normal (wp_ret ?_)
  exact at_return ((modF (x1.2.2.1 - (keyed x0 ([95, x1.2.1]))) 2147483647), (true, ())) [] h (by kernel_rfl) trivial (congrArg (fun z => (z.1, z.2, ())) (show (((modF (x1.2.2.1 - (keyed x0 ([95, x1.2.1]))) 2147483647), true)) = unwrapD x0 x1 from by first | rfl | (unfold unwrapD; rw [if_pos h1])))
def joinM (l : List Int) (m : Int) : List Int := insAt l (twL (fun e => decide (e < m)) l) [m]
theorem pw_at : ∀ {l : List Int}, l.Pairwise (· < ·) → ∀ a b, a < b → b < l.length → l.getD a 0 < l.getD b 0
 | [], _, a, b, _, h => by simp at h
 | x :: l, hp, 0, b + 1, _, h => by
  have hp := List.pairwise_cons.1 hp
  have : l.getD b 0 ∈ l := getD_mem (by simpa using h)
  simpa using hp.1 _ this
 | x :: l, hp, a + 1, b + 1, hab, h => by
  have hp := List.pairwise_cons.1 hp
  simpa using pw_at hp.2 a b (by omega) (by simpa using h)
theorem at_pw : ∀ {l : List Int}, (∀ a b, a < b → b < l.length → l.getD a 0 < l.getD b 0) → l.Pairwise (· < ·)
 | [], _ => List.Pairwise.nil
 | x :: l, h => by
  refine List.pairwise_cons.2 ⟨fun y hy => ?_, at_pw fun a b hab hb => ?_⟩
  ·obtain ⟨j, hj, rfl⟩ := List.getElem_of_mem hy
   have := h 0 (j + 1) (by omega) (by simpa using hj)
   simpa [List.getD_eq_getElem?_getD, List.getElem?_eq_getElem hj] using this
  ·have := h (a + 1) (b + 1) (by omega) (by simpa using hb)
   simpa using this
theorem grp_of {l : List Int} (h1 : ∀ x ∈ l, 0 ≤ x ∧ x ≤ 7) (h2 : l.Pairwise (· < ·)) : allN (grpP l) l.length = true := allN_iff.2 fun j hj => by
 have hb := h1 _ (getD_mem (z := (0 : Int)) hj)
 by_cases e : j = 0
 ·exact grp_t hb (by omega)
 ·refine grp_t hb (.inr ?_)
  rw [show (((j : Nat) : Int) - 1).toNat = j - 1 by omega]
  exact pw_at h2 (j - 1) j (by omega) hj
theorem grp_to {l : List Int} (h : allN (grpP l) l.length = true) : (∀ x ∈ l, 0 ≤ x ∧ x ≤ 7) ∧ l.Pairwise (· < ·) := by
 refine ⟨fun x hx => ?_, at_pw (grp_sorted h)⟩
 obtain ⟨j, hj, rfl⟩ := List.getElem_of_mem hx
 have := allN_iff.1 h j hj
 unfold grpP at this
 simp only [Bool.and_eq_true, decide_eq_true_iff] at this
 rw [getD_of_lt hj] at this
 exact this.1
theorem tw_split {l : List Int} {m : Int} (hp : l.Pairwise (· < ·)) (hm : m ∉ l) : (∀ x ∈ List.take (twL (fun e => decide (e < m)) l) l, x < m) ∧ ∀ x ∈ List.drop (twL (fun e => decide (e < m)) l) l, m < x := by
 have e : List.take (twL (fun e => decide (e < m)) l) l = l.takeWhile (fun e => decide (e < m)) := by
  exact (List.prefix_iff_eq_take.1 (List.takeWhile_prefix _)).symm
 have e2 : List.drop (twL (fun e => decide (e < m)) l) l = l.dropWhile (fun e => decide (e < m)) := by
  have h1 := List.drop_left (l₁ := l.takeWhile (fun e => decide (e < m))) (l₂ := l.dropWhile (fun e => decide (e < m)))
  rw [List.takeWhile_append_dropWhile] at h1
  exact h1
 rw [e, e2]
 refine ⟨fun x hx => ?_, fun x hx => ?_⟩
 ·have : ∀ (l : List Int), ∀ x ∈ l.takeWhile (fun e => decide (e < m)), x < m := by
   intro l
   induction l with
   | nil => intro x hx; cases hx
   | cons y l ih =>
    intro x hx
    by_cases hy : y < m
    ·rw [List.takeWhile_cons_of_pos (by simpa using hy)] at hx
     rcases List.mem_cons.1 hx with rfl | hx
     ·exact hy
     ·exact ih x hx
    ·rw [List.takeWhile_cons_of_neg (by simpa using hy)] at hx; cases hx
  exact this l x hx
 ·have : ∀ (l : List Int), l.Pairwise (· < ·) → m ∉ l → ∀ x ∈ l.dropWhile (fun e => decide (e < m)), m < x := by
   intro l
   induction l with
   | nil => intro _ _ x hx; cases hx
   | cons y l ih =>
    intro hp hm x hx
    have hp := List.pairwise_cons.1 hp
    by_cases hy : y < m
    ·rw [List.dropWhile_cons_of_pos (by simpa using hy)] at hx
     exact ih hp.2 (fun h => hm (List.mem_cons_of_mem _ h)) x hx
    ·rw [List.dropWhile_cons_of_neg (by simpa using hy)] at hx
     have hne : y ≠ m := fun e => hm (by rw [e]; exact List.mem_cons_self)
     rcases List.mem_cons.1 hx with rfl | hx
     ·omega
     ·have := hp.1 x hx; omega
  exact this l hp hm x hx
theorem joinM_ok {l : List Int} {m : Int} (h : allN (grpP l) l.length = true) (hm : 0 ≤ m ∧ m ≤ 7) (hn : m ∉ l) : allN (grpP (joinM l m)) (joinM l m).length = true ∧ (m ∈ joinM l m) ∧ (joinM l m).length = l.length + 1 := by
 obtain ⟨h1, h2⟩ := grp_to h
 obtain ⟨s1, s2⟩ := tw_split h2 hn
 have ht := twL_le (fun e => decide (e < m)) l
 have hl : joinM l m = List.take (twL (fun e => decide (e < m)) l) l ++ [m] ++ List.drop (twL (fun e => decide (e < m)) l) l := rfl
 generalize twL (fun e => decide (e < m)) l = t at *
 rw [hl]
 refine ⟨grp_of (fun x hx => ?_) ?_, by simp, by simp; omega⟩
 ·rcases List.mem_append.1 hx with hx | hx
  ·rcases List.mem_append.1 hx with hx | hx
   ·exact h1 x (List.mem_of_mem_take hx)
   ·have : x = m := by simpa using hx
    rw [this]; exact hm
  ·exact h1 x (List.mem_of_mem_drop hx)
 ·refine List.pairwise_append.2 ⟨List.pairwise_append.2 ⟨h2.sublist (List.take_sublist _ _), List.pairwise_singleton _ _, fun a ha b hb => ?_⟩, h2.sublist (List.drop_sublist _ _), fun a ha b hb => ?_⟩
  ·have : b = m := by simpa using hb
   rw [this]; exact s1 a ha
  ·have hb2 := s2 b hb
   rcases List.mem_append.1 ha with ha | ha
   ·have := s1 a ha; omega
   ·have : a = m := by simpa using ha
    omega
def leaveM (l : List Int) (m : Int) : List Int := l.filter (fun e => !decide (e = m))
theorem leaveM_ok {l : List Int} {m : Int} (h : allN (grpP l) l.length = true) : allN (grpP (leaveM l m)) (leaveM l m).length = true ∧ m ∉ leaveM l m := by
 obtain ⟨h1, h2⟩ := grp_to h
 refine ⟨grp_of (fun x hx => h1 x (List.mem_filter.1 hx).1) (h2.filter _), fun hx => ?_⟩
 have := (List.mem_filter.1 hx).2
 simp at this
theorem leaveM_len {l : List Int} {m : Int} (hm : m ∈ l) : (leaveM l m).length ≠ l.length := fun e => by
 have h1 := List.length_filter_eq_length_iff.1 e m hm
 simp at h1
theorem leaveM_not {l : List Int} {m : Int} (hm : m ∉ l) : leaveM l m = l := by
 unfold leaveM; rw [List.filter_eq_self]; intro x hx; simp; intro e; exact hm (e ▸ hx)
theorem validG_mk {a e : Int} {l : List Int} (ha : 1 ≤ a ∧ a ≤ 2147483646) (he : 0 ≤ e ∧ e ≤ 100000) (h : allN (grpP l) l.length = true) : validGroup (a, e, l) = true := by
 unfold validGroup
 rw [if_pos h, if_pos (show isKey a = true from inR_true ha)]
 exact inR_true he
theorem join_y {g : T26} {m : Int} (hg : validGroup g = true) (he : g.2.1 < 100000) (hm : 0 ≤ m ∧ m ≤ 7) (hn : m ∉ g.2.2) : D_impl_JoinGroup g m = ((g.1, g.2.1 + 1, joinM g.2.2 m), true) ∧ validGroup (g.1, g.2.1 + 1, joinM g.2.2 m) = true := by
 have hv := validGroup_t hg
 have hj := joinM_ok hv.2.2.2 hm hn
 have hv2 : validGroup (g.1, g.2.1 + 1, joinM g.2.2 m) = true := validG_mk hv.1 (by omega) hj.1
 refine ⟨?_, hv2⟩
 unfold D_impl_JoinGroup
 rw [if_pos hg, bs_known hv.2.2.2]
 dsimp only
 rw [if_neg (by rw [decide_eq_false hn]; decide)]
 unfold D_slices_Insert_S_int_int_ grpChanged
 rw [Int.toNat_natCast]
 have e : insAt g.2.2 (twL (fun e => decide (e < m)) g.2.2) [m] = joinM g.2.2 m := rfl
 rw [e, if_pos hv2]
theorem join_n {g : T26} {m : Int} (hg : validGroup g = true) (hn : m ∈ g.2.2) : D_impl_JoinGroup g m = (g, false) := by
 have hv := validGroup_t hg
 unfold D_impl_JoinGroup
 rw [if_pos hg, bs_known hv.2.2.2]
 dsimp only
 rw [if_pos (decide_eq_true hn)]
theorem leave_y {g : T26} {m : Int} (hg : validGroup g = true) (he : g.2.1 < 100000) (hn : m ∈ g.2.2) : D_impl_LeaveGroup g m = ((g.1, g.2.1 + 1, leaveM g.2.2 m), true) ∧ validGroup (g.1, g.2.1 + 1, leaveM g.2.2 m) = true := by
 have hv := validGroup_t hg
 have hl := leaveM_ok (m := m) hv.2.2.2
 have hv2 : validGroup (g.1, g.2.1 + 1, leaveM g.2.2 m) = true := validG_mk hv.1 (by omega) hl.1
 refine ⟨?_, hv2⟩
 have hs := grp_sorted hv.2.2.2
 have hb := bs_known (v := m) hv.2.2.2
 unfold D_slices_BinarySearch_S_int_int_ at hb
 rw [bs_tw hv.2.2.2] at hb
 have hb2 := congrArg (fun z : Int × Bool => z.2) hb
 dsimp only at hb2
 rw [decide_eq_decide] at hb2
 obtain ⟨k1, k2⟩ := hb2.2 hn
 unfold D_impl_LeaveGroup
 rw [if_pos hg, bs_known hv.2.2.2]
 dsimp only
 rw [if_pos (decide_eq_true hn)]
 generalize twL (fun e => decide (e < m)) g.2.2 = t at *
 unfold D_slices_Delete_S_int_int_ grpChanged
 rw [Int.toNat_natCast, show (((t : Nat) : Int) + 1).toNat = t + 1 by omega, ← filter_del hs k1 k2]
 have e : g.2.2.filter (fun e => !decide (e = m)) = leaveM g.2.2 m := rfl
 rw [e, if_pos hv2]
theorem leave_n {g : T26} {m : Int} (hg : validGroup g = true) (hn : m ∉ g.2.2) : D_impl_LeaveGroup g m = (g, false) := by
 have hv := validGroup_t hg
 unfold D_impl_LeaveGroup
 rw [if_pos hg, bs_known hv.2.2.2]
 dsimp only
 rw [if_neg (by rw [decide_eq_false hn]; decide)]
def grpOK (g : T26) (i : Nat) : Prop := validGroup g = true ∧ g.2.1 ≤ (i : Int)
theorem join_inv {g : T26} {m : Int} {i : Nat} (h : grpOK g i) (hi : i < 1000) (hm : 0 ≤ m ∧ m ≤ 7) : grpOK (D_spec_JoinGroup g m).1 (i + 1) := by
 rw [← joinGroup_eq]
 have he := h.2
 by_cases hn : m ∈ g.2.2
 ·rw [join_n h.1 hn]; exact ⟨h.1, by show g.2.1 ≤ _; omega⟩
 ·have hj := join_y h.1 (by omega) hm hn
  rw [hj.1]; exact ⟨hj.2, by show g.2.1 + 1 ≤ _; omega⟩
theorem leave_inv {g : T26} {m : Int} {i : Nat} (h : grpOK g i) (hi : i < 1000) : grpOK (D_spec_LeaveGroup g m).1 (i + 1) := by
 rw [← leaveGroup_eq]
 have he := h.2
 by_cases hn : m ∈ g.2.2
 ·have hj := leave_y h.1 (by omega) hn
  rw [hj.1]; exact ⟨hj.2, by show g.2.1 + 1 ≤ _; omega⟩
 ·rw [leave_n h.1 hn]; exact ⟨h.1, by show g.2.1 ≤ _; omega⟩
def grpStep (q : T53 × T26) : T53 × T26 := if (onceC q.1 3).2 = true then ((belowC (onceC q.1 3).1 5).1, (D_spec_LeaveGroup q.2 (belowC (onceC q.1 3).1 5).2).1) else ((belowC (onceC q.1 3).1 6).1, (D_spec_JoinGroup q.2 (belowC (onceC q.1 3).1 6).2).1)
def grpIt (x : T53) : Nat → T53 × T26
 | 0 => ((belowC (belowC x 99).1 8).1, (1 + (belowC x 99).2, 0, []))
 | i + 1 => grpStep (grpIt x i)
theorem grpIt_y {x : T53} {i : Nat} (h : (onceC (grpIt x i).1 3).2 = true) : grpIt x (i + 1) = ((belowC (onceC (grpIt x i).1 3).1 5).1, (D_spec_LeaveGroup (grpIt x i).2 (belowC (onceC (grpIt x i).1 3).1 5).2).1) := if_pos h
theorem grpIt_n {x : T53} {i : Nat} (h : (onceC (grpIt x i).1 3).2 = false) : grpIt x (i + 1) = ((belowC (onceC (grpIt x i).1 3).1 6).1, (D_spec_JoinGroup (grpIt x i).2 (belowC (onceC (grpIt x i).1 3).1 6).2).1) := if_neg (by rw [h]; decide)
theorem grpIt_inv {x : T53} (hx : 0 ≤ x.2.1) : ∀ i, i ≤ 999 → 0 ≤ (grpIt x i).1.2.1 ∧ grpOK (grpIt x i).2 i
 | 0, _ => by
  have h1 := below_bd x (n := 99) (by decide)
  refine ⟨below_ok (below_ok hx), validG_mk (by omega) (by omega) rfl, ?_⟩
  show (0 : Int) ≤ _; omega
 | i + 1, hi => by
  obtain ⟨h1, h2⟩ := grpIt_inv hx i (by omega)
  have h3 := below_bd (onceC (grpIt x i).1 3).1 (n := 6) (by decide)
  cases ho : (onceC (grpIt x i).1 3).2 with
  | true => rw [grpIt_y ho]; exact ⟨below_ok (once_ok h1), leave_inv h2 (by omega)⟩
  | false => rw [grpIt_n ho]; exact ⟨below_ok (once_ok h1), join_inv h2 (by omega) (by omega)⟩
theorem grp_fit {g : T26} {i : Nat} (h : grpOK g i) : Sh.fit s26 g := ⟨trivial, trivial, ⟨by have := (validGroup_t h.1).2.2.1; omega, fun _ _ => trivial⟩⟩
theorem unwrap_no {g : T26} {m m' : Int} (h : m ≠ m') (hm : 0 ≤ m ∧ m ≤ 7) (hm' : 0 ≤ m' ∧ m' ≤ 7) : (unwrapD (memKey g.1 m) (wrapOne g m')).2 = false := by
 unfold unwrapD
 have h1 := memKey_bd g.1 m; have h2 := memKey_bd g.1 m'
 rw [if_neg]
 intro e
 have e : keyed (memKey g.1 m') _ = keyed (memKey g.1 m) _ := e
 exact h (memKey_inj (keyed3_inj e.symm (by omega) (by omega)) hm hm')
structure LawM (g : T26) (m : Int) : Prop where
 a1 : (D_impl_JoinGroup g m).2 = !(hasF g.2.2 m)
 a2 : (D_impl_JoinGroup g m).2 = true → (D_impl_JoinGroup g m).1.2.1 = g.2.1 + 1 ∧ hasF (D_impl_JoinGroup g m).1.2.2 m = true ∧ List.length (D_impl_JoinGroup g m).1.2.2 = List.length g.2.2 + 1
 a3 : (D_impl_LeaveGroup (D_impl_JoinGroup g m).1 m).2 = true
 a4 : hasF (D_impl_LeaveGroup (D_impl_JoinGroup g m).1 m).1.2.2 m = false
 a5 : (D_impl_LeaveGroup (D_impl_JoinGroup g m).1 m).1.2.1 = (D_impl_JoinGroup g m).1.2.1 + 1
 a6 : validGroup (D_impl_LeaveGroup (D_impl_JoinGroup g m).1 m).1 = true
 a7 : (D_impl_LeaveGroup (D_impl_LeaveGroup (D_impl_JoinGroup g m).1 m).1 m).2 = false
 a8 : 0 ≤ (D_impl_JoinGroup g m).1.2.1 ∧ (D_impl_JoinGroup g m).1.2.1 ≤ 100000
 a9 : Sh.fit s26 (D_impl_JoinGroup g m).1 ∧ Sh.fit s26 (D_impl_LeaveGroup (D_impl_JoinGroup g m).1 m).1
theorem law_m {g : T26} {m : Int} (h : grpOK g 999) (hm : 0 ≤ m ∧ m ≤ 7) : LawM g m := by
 have hv := validGroup_t h.1
 have he := h.2
 -- whether he was one or not, x has him
 have key : ∀ x : T26, validGroup x = true → x.2.1 ≤ 1000 → m ∈ x.2.2 → (D_impl_LeaveGroup x m).2 = true ∧ hasF (D_impl_LeaveGroup x m).1.2.2 m = false ∧ (D_impl_LeaveGroup x m).1.2.1 = x.2.1 + 1 ∧ validGroup (D_impl_LeaveGroup x m).1 = true ∧ (D_impl_LeaveGroup (D_impl_LeaveGroup x m).1 m).2 = false := by
  intro x hx hxe hxm
  have hy := leave_y hx (by omega) hxm
  have hn := (leaveM_ok (m := m) (validGroup_t hx).2.2.2).2
  rw [hy.1]
  refine ⟨rfl, ?_, rfl, hy.2, ?_⟩
  ·rw [Bool.eq_false_iff]; intro hh; exact hn (hasF_iff.1 hh)
  ·rw [leave_n hy.2 hn]
 by_cases hn : m ∈ g.2.2
 ·have hj := join_n h.1 hn
  obtain ⟨k1, k2, k3, k4, k5⟩ := key g h.1 (by omega) hn
  have hF := hasF_iff.2 hn
  constructor <;> simp only [hj] <;> first
   | assumption
   | (rw [hF]; rfl)
   | (intro e; cases e)
   | exact ⟨hv.2.1.1, hv.2.1.2⟩
   | exact ⟨grp_fit (i := 999) h, ⟨trivial, trivial, ⟨by have := (validGroup_t k4).2.2.1; omega, fun _ _ => trivial⟩⟩⟩
 ·obtain ⟨hj, hj2⟩ := join_y h.1 (by omega) hm hn
  have hjo := joinM_ok hv.2.2.2 hm hn
  obtain ⟨k1, k2, k3, k4, k5⟩ := key _ hj2 (by show g.2.1 + 1 ≤ _; omega) hjo.2.1
  have hF : hasF g.2.2 m = false := by rw [Bool.eq_false_iff]; intro hh; exact hn (hasF_iff.1 hh)
  constructor <;> simp only [hj] <;> first
   | assumption
   | (rw [hF]; rfl)
   | exact fun _ => ⟨trivial, hasF_iff.2 hjo.2.1, hjo.2.2⟩
   | exact fun _ => ⟨rfl, hasF_iff.2 hjo.2.1, hjo.2.2⟩
   | (constructor <;> omega)
   | exact ⟨⟨trivial, trivial, ⟨by have := (validGroup_t hj2).2.2.1; omega, fun _ _ => trivial⟩⟩, ⟨trivial, trivial, ⟨by have := (validGroup_t k4).2.2.1; omega, fun _ _ => trivial⟩⟩⟩
structure LawW (y : T26) (m : Int) (i : Nat) : Prop where
 b1 : ((wrapD y).getD i (0, (0, (0, 0)))).1 ≠ m
 b2 : hasF y.2.2 ((wrapD y).getD i (0, (0, (0, 0)))).1 = true
 b3 : ((wrapD y).getD i (0, (0, (0, 0)))).2.1 = y.2.1
 b4 : (unwrapD (memKey y.1 m) ((wrapD y).getD i (0, (0, (0, 0))))).2 = false
 b5 : 0 ≤ ((wrapD y).getD i (0, (0, (0, 0)))).2.2.1 ∧ ((wrapD y).getD i (0, (0, (0, 0)))).2.2.1 < 2147483647
theorem wrapD_len {y : T26} (h : validGroup y = true) : (wrapD y).length = y.2.2.length := by rw [← wrapD_y h]; simp
theorem law_w {y : T26} {m : Int} {i : Nat} (h : validGroup y = true) (hm : 0 ≤ m ∧ m ≤ 7) (hn : hasF y.2.2 m = false) (hi : i < (wrapD y).length) : LawW y m i := by
 have hl := wrapD_len h
 have hmem : y.2.2.getD i 0 ∈ y.2.2 := getD_mem (by omega)
 have hne : y.2.2.getD i 0 ≠ m := fun e => by
  rw [e] at hmem
  rw [hasF_iff.2 hmem] at hn; cases hn
 have hb := (grp_to (validGroup_t h).2.2.2).1 _ hmem
 have e : (wrapD y).getD i (0, (0, (0, 0))) = wrapOne y (y.2.2.getD i 0) := by
  rw [← wrapD_y h, getD_of_lt (by simp; omega), List.getElem_map, getD_of_lt (by omega)]
 have hk := keyed_bd (memKey y.1 (y.2.2.getD i 0)) [95, y.2.1]
 have hk2 := grpKey_bd y.1 y.2.1
 constructor <;> rw [e]
 ·exact hne
 ·exact hasF_iff.2 hmem
 ·rfl
 ·exact unwrap_no (fun e => hne e.symm) hm hb
 ·exact LA.tmod_lt (by omega) (by decide)

end Go.Proofs.Ytkooidplpabmgaa

/- The walks of the functions that the law reaches: each summary holds. No condition. -/
import Derived.Test.YtpkbkphpepkmpaaPZ
import Derived.Test.YtpkbkphpepkmpaaProg
namespace Go.Proofs.Ytpkbkphpepkmpaa
open Go.RowKit
set_option linter.unusedVariables false
set_option linter.unusedSimpArgs false
abbrev s61 : Sh := .sl 61 (.int 3)
abbrev s22 : Sh := .sl 22 (.u8 5)
abbrev s78 : Sh := .st 78 (.pair (.int 3) (.pair s61 s61))
abbrev T78 : Type := (Int × ((List Int) × (List Int)))
abbrev s41 : Sh := .sl 41 s78
abbrev s75 : Sh := .st 75 (.pair (.int 3) (.pair (.int 3) (.int 3)))
abbrev T75 : Type := (Int × (Int × Int))
abbrev s27 : Sh := .sl 27 s75
abbrev s29 : Sh := .st 29 s27
abbrev s45 : Sh := .sl 45 s61
abbrev s47 : Sh := .st 47 (.pair (.int 3) s45)
abbrev T47 : Type := (Int × (List (List Int)))
abbrev s23 : Sh := .sl 23 s47
abbrev s43 : Sh := .st 43 (.pair (.int 3) (.pair (.int 3) (.pair (.int 3) (.pair s41 (.int 3)))))
abbrev T43 : Type := (Int × (Int × (Int × ((List T78) × Int))))
abbrev s26 : Sh := .sl 26 s43
abbrev s25 : Sh := .st 25 (.pair (.int 3) (.pair (.int 3) (.pair (.int 3) (.int 3))))
abbrev T25 : Type := (Int × (Int × (Int × Int)))
abbrev s31 : Sh := .st 31 (.pair s23 (.pair s25 (.pair s26 (.pair s29 (.int 3)))))
abbrev T31 : Type := ((List T47) × (T25 × ((List T43) × ((List T75) × Int))))
def gam : Gam := [(61, (.int 3), 8), (22, (.u8 5), 1), (45, s61, 24), (23, s47, 32), (26, s43, 56)]
theorem gamOK : GamOK Try.prog gam := (.cons (Elem.of (.int .i64 0) Try.underlying61 (by kernel_rfl) rfl (by decide) (by decide)) (.cons (Elem.of (.int .u8 0) Try.underlying22 (by kernel_rfl) rfl (by decide) (by decide)) (.cons (Elem.of (.slice none 0 0) Try.underlying45 (by kernel_rfl) rfl (by decide) (by decide)) (.cons (Elem.of (.agg #[(.int .i64 0), (.slice none 0 0)]) Try.underlying23 (by kernel_rfl) rfl (by decide) (by decide)) (.cons (Elem.of (.agg #[(.int .i64 0), (.int .i64 0), (.int .i64 0), (.slice none 0 0), (.int .i64 0)]) Try.underlying26 (by kernel_rfl) rfl (by decide) (by decide)) .nil)))))
theorem mixed : Try.prog.follows .mixedOrders = true := by kernel_rfl
theorem lsA {α : Type} : (∀ xs ys : List α, (xs ++ ys).length = xs.length + ys.length) ∧ (∀ (x : α) (xs : List α), (x :: xs).length = xs.length + 1) ∧ (([] : List α).length = 0) ∧ (∀ (xs : List α) (i : Nat) (a : α), (xs.set i a).length = xs.length) ∧ (∀ (xs : List α) (n : Nat), (xs.take n).length = min n xs.length) ∧ (∀ (xs : List α) (n : Nat), (xs.drop n).length = xs.length - n) ∧ (∀ (n : Nat) (a : α), (List.replicate n a).length = n) := ⟨fun _ _ => List.length_append, fun _ _ => rfl, rfl, fun _ _ _ => List.length_set, fun _ _ => List.length_take, fun _ _ => List.length_drop, fun _ _ => List.length_replicate⟩
def inR (n lo hi : Int) : Bool := decide (lo ≤ n ∧ n ≤ hi)
theorem inR_t {n a b : Int} (h : inR n a b = true) : a ≤ n ∧ n ≤ b := of_decide_eq_true h
theorem inR_f {n a b : Int} (h : inR n a b = false) : n < a ∨ b < n := by have := of_decide_eq_false h; omega
theorem inR_true {n a b : Int} (h : a ≤ n ∧ n ≤ b) : inR n a b = true := decide_eq_true h
def lenOK {α : Type} (xs : List α) : Prop := xs.length ≤ 1073741824
def idL {α : Type} (xs : List α) : List α := xs
def u8L (xs : List Int) : Prop := ∀ e : Int, List.Mem e xs → (0 : Int) ≤ e ∧ e < (256 : Int)
theorem u8_range (k : Int) : (0 : Int) ≤ IntKind.u8.wrap k ∧ IntKind.u8.wrap k < (256 : Int) := by
 simp only [IntKind.wrap, IntKind.signed, IntKind.bits]; constructor <;> (simp; omega)
theorem getD_u8 {xs : List Int} (h : u8L xs) (i : Nat) : (0 : Int) ≤ xs.getD i 0 ∧ xs.getD i 0 < (256 : Int) := by
 by_cases l : i < xs.length
 ·rw [List.getD_eq_getElem?_getD, List.getElem?_eq_getElem l]; exact h _ (List.getElem_mem l)
 ·rw [List.getD_eq_getElem?_getD, List.getElem?_eq_none (by omega)]; constructor <;> decide
section
variable {α β : Type}
def noneTo (p : α → Bool) (xs : List α) (z : α) (i : Nat) : Prop := ∀ j, j < i → p (xs.getD j z) = false
def idxF (p : α → Bool) : List α → Int
 | [] => -1
 | x :: l => if p x = true then 0 else if idxF p l < 0 then -1 else idxF p l + 1
theorem noneTo_zero {p : α → Bool} {xs : List α} {z : α} : noneTo p xs z 0 := fun j h => by omega
theorem noneTo_succ {p : α → Bool} {xs : List α} {z : α} {i : Nat} (h : noneTo p xs z i) (k : p (xs.getD i z) = false) : noneTo p xs z (i + 1) := fun j hj => by
 by_cases e : j = i
 ·subst e; exact k
 ·exact h j (by omega)
theorem idxF_at {p : α → Bool} {z : α} : ∀ {xs : List α} {i : Nat}, i < xs.length → noneTo p xs z i → p (xs.getD i z) = true → idxF p xs = i
 | [], _, h, _, _ => by simp at h
 | x :: l, 0, _, _, k => by
  have k : p x = true := k
  simp [idxF, k]
 | x :: l, i + 1, h, hn, k => by
  have h0 : p x = false := hn 0 (by omega)
  have := idxF_at (xs := l) (i := i) (by simpa using h) (fun j hj => by have := hn (j + 1) (by omega); simpa using this) (by simpa using k)
  simp only [idxF, h0, this]
  rw [if_neg (by decide), if_neg (by omega)]
  omega
theorem idxF_none {p : α → Bool} {z : α} : ∀ {xs : List α} {i : Nat}, xs.length ≤ i → noneTo p xs z i → idxF p xs = -1
 | [], _, _, _ => rfl
 | x :: l, 0, h, _ => by simp at h
 | x :: l, i + 1, h, hn => by
  have h0 : p x = false := hn 0 (by omega)
  have := idxF_none (xs := l) (i := i) (by simpa using h) (fun j hj => by have := hn (j + 1) (by omega); simpa using this)
  simp [idxF, h0, this]
theorem idxF_pos {p : α → Bool} : ∀ {xs : List α}, 0 ≤ idxF p xs ↔ xs.any p = true
 | [] => by simp [idxF]
 | x :: l => by
  have := idxF_pos (xs := l) (p := p)
  simp only [idxF, List.any_cons, Bool.or_eq_true, ← this]
  by_cases hx : p x = true
  ·simp [hx]
  ·rw [if_neg hx]
   split
   ·rename_i h; constructor
    ·intro h'; omega
    ·rintro (h' | h')
     ·exact absurd h' hx
     ·omega
   ·rename_i h; constructor
    ·intro h'; right; omega
    ·intro _; omega
theorem idxF_any {p : α → Bool} {xs : List α} : decide (idxF p xs ≥ 0) = xs.any p := by
 rw [Bool.eq_iff_iff, decide_eq_true_iff]; exact idxF_pos
def allTo2 (e : α → β → Bool) (xs : List α) (ys : List β) (z : α) (y : β) (i : Nat) : Prop := ∀ j, j < i → e (xs.getD j z) (ys.getD j y) = true
def eqF (e : α → β → Bool) : List α → List β → Bool
 | [], [] => true
 | x :: l, y :: l' => e x y && eqF e l l'
 | _, _ => false
theorem allTo2_zero {e : α → β → Bool} {xs : List α} {ys : List β} {z : α} {y : β} : allTo2 e xs ys z y 0 := fun j h => by omega
theorem allTo2_succ {e : α → β → Bool} {xs : List α} {ys : List β} {z : α} {y : β} {i : Nat} (h : allTo2 e xs ys z y i) (k : e (xs.getD i z) (ys.getD i y) = true) : allTo2 e xs ys z y (i + 1) := fun j hj => by
 by_cases e : j = i
 ·subst e; exact k
 ·exact h j (by omega)
theorem eqF_len {e : α → β → Bool} : ∀ {xs : List α} {ys : List β}, xs.length ≠ ys.length → eqF e xs ys = false
 | [], [], h => absurd rfl h
 | [], _ :: _, _ => rfl
 | _ :: _, [], _ => rfl
 | _ :: l, _ :: l', h => by simp only [eqF]; rw [eqF_len (xs := l) (ys := l') (by simpa using h), Bool.and_false]
theorem eqF_at {e : α → β → Bool} {z : α} {y : β} : ∀ {xs : List α} {ys : List β} {i : Nat}, i < xs.length → i < ys.length → e (xs.getD i z) (ys.getD i y) = false → eqF e xs ys = false
 | x :: l, y' :: l', 0, _, _, h => by
  have h : e x y' = false := h
  simp [eqF, h]
 | x :: l, y' :: l', i + 1, h1, h2, h => by simp only [eqF]; rw [eqF_at (xs := l) (ys := l') (i := i) (by simpa using h1) (by simpa using h2) (by simpa using h), Bool.and_false]
 | [], _, _, h1, _, _ => by simp at h1
 | _ :: _, [], _, _, h2, _ => by simp at h2
theorem eqF_all {e : α → β → Bool} {z : α} {y : β} : ∀ {xs : List α} {ys : List β} {i : Nat}, xs.length = ys.length → xs.length ≤ i → allTo2 e xs ys z y i → eqF e xs ys = true
 | [], [], _, _, _, _ => rfl
 | [], _ :: _, _, h, _, _ => by simp at h
 | _ :: _, [], _, h, _, _ => by simp at h
 | x :: l, y' :: l', 0, _, h, _ => by simp at h
 | x :: l, y' :: l', i + 1, h, hi, ha => by
  have h0 : e x y' = true := ha 0 (by omega)
  simp only [eqF]
  rw [h0, eqF_all (xs := l) (ys := l') (i := i) (by simpa using h) (by simpa using hi) (fun j hj => by have := ha (j + 1) (by omega); simpa using this)]
  rfl
def allTo1 (p : α → Bool) (xs : List α) (z : α) (i : Nat) : Prop := ∀ j, j < i → p (xs.getD j z) = true
theorem allTo1_zero {p : α → Bool} {xs : List α} {z : α} : allTo1 p xs z 0 := fun j h => by omega
theorem allTo1_succ {p : α → Bool} {xs : List α} {z : α} {i : Nat} (h : allTo1 p xs z i) (k : p (xs.getD i z) = true) : allTo1 p xs z (i + 1) := fun j hj => by
 by_cases e : j = i
 ·subst e; exact k
 ·exact h j (by omega)
theorem all_at {p : α → Bool} {xs : List α} {z : α} {i : Nat} (h : i < xs.length) (k : p (xs.getD i z) = false) : xs.all p = false := by
 rw [Bool.eq_false_iff]; intro ha
 have := List.all_eq_true.1 ha _ (getD_mem (z := z) h)
 rw [k] at this; cases this
theorem all_of {p : α → Bool} {xs : List α} {z : α} {i : Nat} (h : xs.length ≤ i) (k : allTo1 p xs z i) : xs.all p = true := by
 rw [List.all_eq_true]; intro x hx
 obtain ⟨j, hj, rfl⟩ := List.getElem_of_mem hx
 have := k j (by omega)
 rwa [getD_of_lt hj] at this
def foldTo (f : β → α → β) (b : β) (xs : List α) (i : Nat) : β := (xs.take i).foldl f b
theorem foldTo_zero {f : β → α → β} {b : β} {xs : List α} : foldTo f b xs 0 = b := rfl
theorem foldTo_succ {f : β → α → β} {b : β} {xs : List α} {i : Nat} (z : α) (h : i < xs.length) : foldTo f b xs (i + 1) = f (foldTo f b xs i) (xs.getD i z) := by
 unfold foldTo; rw [take_snoc (z := z) h, List.foldl_append]; rfl
theorem foldTo_all {f : β → α → β} {b : β} {xs : List α} {i : Nat} (h : xs.length ≤ i) : foldTo f b xs i = xs.foldl f b := by unfold foldTo; rw [take_all h]
end
section
variable {α β : Type}
theorem any_at {p : α → Bool} {xs : List α} {z : α} {i : Nat} (h : i < xs.length) (k : p (xs.getD i z) = true) : xs.any p = true := List.any_eq_true.2 ⟨_, getD_mem h, k⟩
theorem any_of {p : α → Bool} {xs : List α} {z : α} {i : Nat} (h : xs.length ≤ i) (k : noneTo p xs z i) : xs.any p = false := by
 rw [Bool.eq_false_iff]; intro ha
 obtain ⟨x, hx, hp⟩ := List.any_eq_true.1 ha
 obtain ⟨j, hj, rfl⟩ := List.getElem_of_mem hx
 have := k j (by omega)
 rw [getD_of_lt hj, hp] at this; cases this
def allN (P : Nat → Bool) : Nat → Bool
 | 0 => true
 | n + 1 => allN P n && P n
theorem allN_succ {P : Nat → Bool} {i : Nat} (h : allN P i = true) (k : P i = true) : allN P (i + 1) = true := by simp [allN, h, k]
theorem allN_iff {P : Nat → Bool} : ∀ {n : Nat}, allN P n = true ↔ ∀ j, j < n → P j = true
 | 0 => by simp [allN]
 | n + 1 => by
  simp only [allN, Bool.and_eq_true, allN_iff (n := n)]
  constructor
  ·rintro ⟨h1, h2⟩ j hj
   by_cases e : j = n
   ·rw [e]; exact h2
   ·exact h1 j (by omega)
  ·intro h; exact ⟨fun j hj => h j (by omega), h n (by omega)⟩
theorem allN_eq {P : Nat → Bool} {i n : Nat} (h : n ≤ i) (h' : i ≤ n) (k : allN P i = true) : allN P n = true := by rw [show n = i by omega]; exact k
theorem allN_at {P : Nat → Bool} {i n : Nat} (h : i < n) (k : P i = false) : allN P n = false := by
 rw [Bool.eq_false_iff]; intro ha
 rw [allN_iff.1 ha i h] at k; cases k
theorem map_snoc {f : α → β} {xs : List α} {i : Nat} {z : α} (h : i < xs.length) : (xs.take (i + 1)).map f = (xs.take i).map f ++ [f (xs.getD i z)] := by rw [take_snoc (z := z) h, List.map_append]; rfl
theorem filter_snoc_t {p : α → Bool} {xs : List α} {i : Nat} {z : α} (h : i < xs.length) (k : p (xs.getD i z) = true) : (xs.take (i + 1)).filter p = (xs.take i).filter p ++ [xs.getD i z] := by rw [take_snoc (z := z) h, List.filter_append, List.filter_cons_of_pos k]; rfl
theorem filter_snoc_f {p : α → Bool} {xs : List α} {i : Nat} {z : α} (h : i < xs.length) (k : p (xs.getD i z) = false) : (xs.take (i + 1)).filter p = (xs.take i).filter p := by rw [take_snoc (z := z) h, List.filter_append, List.filter_cons_of_neg (by rw [k]; decide)]; simp
theorem len_filter_take {p : α → Bool} {xs : List α} (i : Nat) : ((xs.take i).filter p).length ≤ xs.length := Nat.le_trans (List.length_filter_le _ _) (by simp; omega)
theorem len_take_le {xs : List α} (i : Nat) : (xs.take i).length ≤ xs.length := by simp; omega
end
def S_slices_Clone_S_int_int_ : Sum := { fid := 51, dom := [s61], cod := [s61], dp := true, fz := false, pre := fun x => (lenOK (α := Int)) x.1, g := fun x => (((idL (α := Int)) x.1), ()) }
def S_slices_Clone_S_int_int__tab : List (Nat × Sum) := []
theorem S_slices_Clone_S_int_int__ok : FnOK Try.prog 51 S_slices_Clone_S_int_int_ := by
 refine at_enter 8 (fun x => ⟨[(0, aF (.int 3) x.1)], []⟩) Try.func51 rfl (by kernel_rfl) (fun x => rfl) ?_
 rintro w0 Z0 ⟨x0, u⟩ a w
 revert x0
 intro (x0 : (List Int)) hpre hlens h
 replace hpre : (lenOK (α := Int)) x0 := hpre
 have hl1 : List.length x0 ≤ 9223372036854775807 := hlens.1.1
 have hT : TabOK Try.prog S_slices_Clone_S_int_int__tab := .nil
 have hp : List.length x0 ≤ 1073741824 := hpre
 refine wp_seq ?_
 refine at_regq [] { ts := [0, 2], os := [] } [] gamOK hT h (by kernel_rfl) trivial fun a w h => then_normal (wp_seq (wp_seq ?_))
 refine at_regq [] { ts := [0, 2, 4], os := [] } [] gamOK hT h (by kernel_rfl) trivial fun a w h => then_normal ?_
 refine at_nil (List.length x0) h (by kernel_rfl) (fun h1 => ?_) ?_
 ·refine wp_seq ?_
  refine at_regq [] { ts := [0, 2], os := [] } [] gamOK hT h (by kernel_rfl) trivial fun a w h => then_normal (wp_ret (then_ret ?_))
  exact at_return (([] : List Int), ()) [] h (by kernel_rfl) trivial (congrArg (fun z => (z, ())) (show (([] : List Int)) = (idL (α := Int)) x0 from by (show [] = x0; exact (List.eq_nil_of_length_eq_zero h1).symm)))
 ·refine wp_skip (then_normal (wp_seq ?_))
  refine at_regq [{ ids := [1] }, {}, { ids := [2] }] { ts := [2], os := [2] } [(List.length ([] : List Int) + List.length x0) * 8 ≤ 140737488355328] gamOK hT h (by kernel_rfl) ⟨(by first | omega | (simp only [lsA]; omega) | (simp <;> omega)), trivial⟩ fun a w h => then_normal (wp_ret ?_)
  exact at_return ((([] : List Int) ++ x0), ()) [] h (by kernel_rfl) trivial (congrArg (fun z => (z, ())) (show ((([] : List Int) ++ x0)) = (idL (α := Int)) x0 from by (show [] ++ x0 = x0; rfl)))

def S_slices_Clone_S_byte_byte_ : Sum := { fid := 60, dom := [s22], cod := [s22], dp := true, fz := false, pre := fun x => (lenOK (α := Int)) x.1, g := fun x => (((idL (α := Int)) x.1), ()) }
def S_slices_Clone_S_byte_byte__tab : List (Nat × Sum) := []
theorem S_slices_Clone_S_byte_byte__ok : FnOK Try.prog 60 S_slices_Clone_S_byte_byte_ := by
 refine at_enter 8 (fun x => ⟨[(0, aF (.u8 5) x.1)], []⟩) Try.func60 rfl (by kernel_rfl) (fun x => rfl) ?_
 rintro w0 Z0 ⟨x0, u⟩ a w
 revert x0
 intro (x0 : (List Int)) hpre hlens h
 replace hpre : (lenOK (α := Int)) x0 := hpre
 have hl1 : List.length x0 ≤ 9223372036854775807 := hlens.1.1
 have hu0 : u8L x0 := hlens.1.2
 have hT : TabOK Try.prog S_slices_Clone_S_byte_byte__tab := .nil
 have hp : List.length x0 ≤ 1073741824 := hpre
 refine wp_seq ?_
 refine at_regq [] { ts := [0, 2], os := [] } [] gamOK hT h (by kernel_rfl) trivial fun a w h => then_normal (wp_seq (wp_seq ?_))
 refine at_regq [] { ts := [0, 2, 4], os := [] } [] gamOK hT h (by kernel_rfl) trivial fun a w h => then_normal ?_
 refine at_nil (List.length x0) h (by kernel_rfl) (fun h1 => ?_) ?_
 ·refine wp_seq ?_
  refine at_regq [] { ts := [0, 2], os := [] } [] gamOK hT h (by kernel_rfl) trivial fun a w h => then_normal (wp_ret (then_ret ?_))
  exact at_return (([] : List Int), ()) [] h (by kernel_rfl) trivial (congrArg (fun z => (z, ())) (show (([] : List Int)) = (idL (α := Int)) x0 from by (show [] = x0; exact (List.eq_nil_of_length_eq_zero h1).symm)))
 ·refine wp_skip (then_normal (wp_seq ?_))
  refine at_regq [{ ids := [1] }, {}, { ids := [2] }] { ts := [2], os := [2] } [(List.length ([] : List Int) + List.length x0) * 1 ≤ 140737488355328] gamOK hT h (by kernel_rfl) ⟨(by first | omega | (simp only [lsA]; omega) | (simp <;> omega)), trivial⟩ fun a w h => then_normal (wp_ret ?_)
  exact at_return ((([] : List Int) ++ x0), ()) [] h (by kernel_rfl) trivial (congrArg (fun z => (z, ())) (show ((([] : List Int) ++ x0)) = (idL (α := Int)) x0 from by (show [] ++ x0 = x0; rfl)))

def S_impl_InRange : Sum := { fid := 17, dom := [(.int 3), (.int 3), (.int 3)], cod := [(.bool 4)], dp := true, fz := false, pre := fun x => True, g := fun x => ((inR x.1 x.2.1 x.2.2.1), ()) }
def S_impl_InRange_tab : List (Nat × Sum) := []
theorem S_impl_InRange_ok : FnOK Try.prog 17 S_impl_InRange := by
 refine at_enter 15 (fun x => ⟨[(0, aI x.1), (1, aI x.2.1), (2, aI x.2.2.1)], []⟩) Try.func17 rfl (by kernel_rfl) (fun x => rfl) ?_
 rintro w0 Z0 ⟨x0, x1, x2, u⟩ a w
 revert x0 x1 x2
 intro (x0 : Int) (x1 : Int) (x2 : Int) hpre hlens h
 have hT : TabOK Try.prog S_impl_InRange_tab := .nil
 refine wp_seq ?_
 refine at_regq [] { ts := [0, 1, 2, 6], os := [] } [] gamOK hT h (by kernel_rfl) trivial fun a w h => then_normal (wp_seq ?_)
 by_cases h1 : x1 ≤ x0
 ·refine at_regq [{}, {}, { hint := some (aB true) }] { ts := [6], os := [] } [(AV.p (.c (.v (.bool (decide (x1 ≤ x0))))) = AV.p (.c (.v (.bool true))))] gamOK hT h (by kernel_rfl) ⟨hint_bool (decide_eq_true h1), trivial⟩ fun a w h => then_normal (wp_ret ?_)
  exact at_return (decide (x0 ≤ x2), ()) [] h (by kernel_rfl) trivial (congrArg (fun z => (z, ())) (show (decide (x0 ≤ x2)) = inR x0 x1 x2 from by (unfold inR; simp [*]; done)))
 ·refine at_regq [{}, {}, { hint := some (aB false) }] { ts := [6], os := [] } [(AV.p (.c (.v (.bool (decide (x1 ≤ x0))))) = AV.p (.c (.v (.bool false))))] gamOK hT h (by kernel_rfl) ⟨hint_bool (decide_eq_false h1), trivial⟩ fun a w h => then_normal (wp_ret ?_)
  exact at_return (false, ()) [] h (by kernel_rfl) trivial (congrArg (fun z => (z, ())) (show (false) = inR x0 x1 x2 from by (unfold inR; simp [*]; done)))

def S_spec_l1In : Sum := { fid := 32, dom := [(.int 3), (.int 3), (.int 3)], cod := [(.bool 4)], dp := true, fz := false, pre := fun x => True, g := fun x => ((inR x.1 x.2.1 x.2.2.1), ()) }
def S_spec_l1In_tab : List (Nat × Sum) := []
theorem S_spec_l1In_ok : FnOK Try.prog 32 S_spec_l1In := by
 refine at_enter 15 (fun x => ⟨[(0, aI x.1), (1, aI x.2.1), (2, aI x.2.2.1)], []⟩) Try.func32 rfl (by kernel_rfl) (fun x => rfl) ?_
 rintro w0 Z0 ⟨x0, x1, x2, u⟩ a w
 revert x0 x1 x2
 intro (x0 : Int) (x1 : Int) (x2 : Int) hpre hlens h
 have hT : TabOK Try.prog S_spec_l1In_tab := .nil
 refine wp_seq ?_
 refine at_regq [] { ts := [0, 1, 2, 6], os := [] } [] gamOK hT h (by kernel_rfl) trivial fun a w h => then_normal (wp_seq ?_)
 by_cases h1 : x0 ≥ x1
 ·refine at_regq [{}, {}, { hint := some (aB true) }] { ts := [6], os := [] } [(AV.p (.c (.v (.bool (decide (x0 ≥ x1))))) = AV.p (.c (.v (.bool true))))] gamOK hT h (by kernel_rfl) ⟨hint_bool (decide_eq_true h1), trivial⟩ fun a w h => then_normal (wp_ret ?_)
  exact at_return (decide (x0 ≤ x2), ()) [] h (by kernel_rfl) trivial (congrArg (fun z => (z, ())) (show (decide (x0 ≤ x2)) = inR x0 x1 x2 from by (unfold inR; first | (simp only [ge_iff_le] at *; simp [*]; done) | (rw [decide_eq_false]; omega))))
 ·refine at_regq [{}, {}, { hint := some (aB false) }] { ts := [6], os := [] } [(AV.p (.c (.v (.bool (decide (x0 ≥ x1))))) = AV.p (.c (.v (.bool false))))] gamOK hT h (by kernel_rfl) ⟨hint_bool (decide_eq_false h1), trivial⟩ fun a w h => then_normal (wp_ret ?_)
  exact at_return (false, ()) [] h (by kernel_rfl) trivial (congrArg (fun z => (z, ())) (show (false) = inR x0 x1 x2 from by (unfold inR; first | (simp only [ge_iff_le] at *; simp [*]; done) | (rw [decide_eq_false]; omega))))

def S_laws_eqByteS : Sum := { fid := 8, dom := [s22, s22], cod := [(.bool 4)], dp := true, fz := false, pre := fun x => True, g := fun x => (((Sh.eqB s22) x.1 x.2.1), ()) }
def S_laws_eqByteS_tab : List (Nat × Sum) := []
theorem S_laws_eqByteS_ok : FnOK Try.prog 8 S_laws_eqByteS := by
 refine at_enter 26 (fun x => ⟨[(0, aF (.u8 5) x.1), (1, aF (.u8 5) x.2.1)], []⟩) Try.func8 rfl (by kernel_rfl) (fun x => rfl) ?_
 rintro w0 Z0 ⟨x0, x1, u⟩ a w
 revert x0 x1
 intro (x0 : (List Int)) (x1 : (List Int)) hpre hlens h
 have hl1 : List.length x0 ≤ 9223372036854775807 := hlens.1.1
 have hu0 : u8L x0 := hlens.1.2
 have hl2 : List.length x1 ≤ 9223372036854775807 := hlens.2.1.1
 have hu1 : u8L x1 := hlens.2.1.2
 have hT : TabOK Try.prog S_laws_eqByteS_tab := .nil
 refine wp_seq ?_
 refine at_regq [] { ts := [0, 1, 4], os := [] } [] gamOK hT h (by kernel_rfl) trivial fun a w h => then_normal (wp_seq (wp_seq ?_))
 refine at_regq [] { ts := [0, 1, 4, 10], os := [] } [] gamOK hT h (by kernel_rfl) trivial fun a w h => then_normal ?_
 refine at_test (!decide (((List.length x0 : Nat) : Int) = ((List.length x1 : Nat) : Int))) h (by kernel_rfl) (fun h1 => ?_) (fun h1 => ?_)
 ·replace h1 : ¬ (((List.length x0 : Nat) : Int) = ((List.length x1 : Nat) : Int)) := of_decide_eq_false (notT h1)
  refine wp_seq ?_
  refine at_regq [] { ts := [0, 1, 4], os := [] } [] gamOK hT h (by kernel_rfl) trivial fun a w h => then_normal (wp_ret (then_ret ?_))
  exact at_return (false, ()) [] h (by kernel_rfl) trivial (congrArg (fun z => (z, ())) (show (false) = (Sh.eqB s22) x0 x1 from by exact (Sh.eqB_ne (fun e => h1 (by rw [e]))).symm))
 ·replace h1 : ((List.length x0 : Nat) : Int) = ((List.length x1 : Nat) : Int) := of_decide_eq_true (notF h1)
  refine wp_skip (then_normal (wp_seq (wp_seq ?_)))
  refine at_regq [] { ts := [0, 1, 4, 5], os := [] } [] gamOK hT h (by kernel_rfl) trivial fun a w h => then_normal (wp_block ?_)
  replace h := at_out (σ' := ⟨[(0, aF (.u8 5) x0), (1, aF (.u8 5) x1), (4, aB false), (5, aI 0)], []⟩) { ts := [0, 1, 4, 5], os := [] } h (by kernel_rfl)
  refine at_loop (fun i : Nat => (⟨[(0, aF (.u8 5) x0), (1, aF (.u8 5) x1), (4, aB false), (5, aI ((i : Nat) : Int))], []⟩ : St)) (fun i => (i ≤ List.length x0 ∧ x0.take i = x1.take i)) (fun i => List.length x0 - i) (0) h (st_congr1 (fun (d0 : Int) => (⟨[(0, aF (.u8 5) x0), (1, aF (.u8 5) x1), (4, aB false), (5, aI d0)], []⟩ : St)) (show (0 : Int) = (((0) : Nat) : Int) from by first | with_reducible rfl | (rfl) | rfl)) (by exact ⟨Nat.zero_le _, rfl⟩) ?_
  intro i a w hok0 h
  refine wp_seq (wp_seq ?_)
  refine at_regq [] { ts := [0, 1, 4, 5, 14], os := [] } [] gamOK hT h (by kernel_rfl) trivial fun a w h => then_normal ?_
  refine at_test (decide (((i : Nat) : Int) < ((List.length x0 : Nat) : Int))) h (by kernel_rfl) (fun h2 => ?_) (fun h2 => ?_)
  ·replace h2 : ((i : Nat) : Int) < ((List.length x0 : Nat) : Int) := of_decide_eq_true h2
   refine wp_skip (then_normal (wp_seq (wp_block (wp_seq ?_))))
   refine at_anyq [{}, {}, {}, {}, {}, {}, {}, {}, {}] { ts := [0, 1, 4, 5, 25], os := [] } [(0 : Int) ≤ ((i : Nat) : Int) ∧ ((i : Nat) : Int) < ((List.length x0 : Nat) : Int), (0 : Int) ≤ ((i : Nat) : Int) ∧ ((i : Nat) : Int) < ((List.length x1 : Nat) : Int)] gamOK hT mixed h (by kernel_rfl) ⟨(by refine ⟨?_, ?_⟩ <;> (first | omega | (simp only [lsA]; omega) | (simp <;> omega))), (by refine ⟨?_, ?_⟩ <;> (first | omega | (simp only [lsA]; omega) | (simp <;> omega))), trivial⟩ fun a w h => then_normal ?_
   refine at_test (!decide ((x0.getD i 0) = (x1.getD i 0))) h (by kernel_rfl) (fun h3 => ?_) (fun h3 => ?_)
   ·replace h3 : ¬ ((x0.getD i 0) = (x1.getD i 0)) := of_decide_eq_false (notT h3)
    refine wp_seq ?_
    refine at_regq [] { ts := [0, 1, 4, 5], os := [] } [] gamOK hT h (by kernel_rfl) trivial fun a w h => then_normal (wp_ret (in_ret (then_ret (then_ret (in_ret (then_ret ?_))))))
    exact at_return (false, ()) [] h (by kernel_rfl) trivial (congrArg (fun z => (z, ())) (show (false) = (Sh.eqB s22) x0 x1 from by exact (Sh.eqB_ne (s := s22) (fun e => h3 (by rw [e]))).symm))
   ·replace h3 : (x0.getD i 0) = (x1.getD i 0) := of_decide_eq_true (notF h3)
    refine wp_skip (in_normal (then_normal ?_))
    refine at_regq [{}, { nw := true }] { ts := [0, 1, 4, 5], os := [] } [I64 (((i : Nat) : Int) + 1)] gamOK hT h (by kernel_rfl) ⟨⟨by first | omega | (simp only [lsA]; omega) | (simp <;> omega), by first | omega | (simp only [lsA]; omega) | (simp <;> omega)⟩, trivial⟩ fun a w h => ?_
    replace h := at_out (σ' := ⟨[(0, aF (.u8 5) x0), (1, aF (.u8 5) x1), (4, aB false), (5, aI (((i : Nat) : Int) + 1))], []⟩) { ts := [0, 1, 4, 5], os := [] } h (by kernel_rfl)
    exact ⟨i + 1, at_eq h (st_congr1 (fun (d0 : Int) => (⟨[(0, aF (.u8 5) x0), (1, aF (.u8 5) x1), (4, aB false), (5, aI d0)], []⟩ : St)) (show (((i : Nat) : Int) + 1 : Int) = (((i + 1) : Nat) : Int) from by first | with_reducible rfl | (omega) | rfl)), (by exact ⟨by omega, eqTo_step (z := 0) (by omega) (by omega) hok0.2 h3⟩), (by omega)⟩
  ·replace h2 : ¬ (((i : Nat) : Int) < ((List.length x0 : Nat) : Int)) := of_decide_eq_false h2
   refine wp_exit (then_exit (then_exit (in_hit (then_normal (wp_seq ?_)))))
   refine at_regq [] { ts := [4], os := [] } [] gamOK hT h (by kernel_rfl) trivial fun a w h => then_normal (wp_ret ?_)
   exact at_return (true, ()) [] h (by kernel_rfl) trivial (congrArg (fun z => (z, ())) (show (true) = (Sh.eqB s22) x0 x1 from by (have e := hok0.2; rw [take_all (by omega), take_all (by omega)] at e; exact ((Sh.eqB_iff s22).2 e).symm)))

def S_laws_eqIntS : Sum := { fid := 58, dom := [s61, s61], cod := [(.bool 4)], dp := true, fz := false, pre := fun x => True, g := fun x => (((Sh.eqB s61) x.1 x.2.1), ()) }
def S_laws_eqIntS_tab : List (Nat × Sum) := []
theorem S_laws_eqIntS_ok : FnOK Try.prog 58 S_laws_eqIntS := by
 refine at_enter 26 (fun x => ⟨[(0, aF (.int 3) x.1), (1, aF (.int 3) x.2.1)], []⟩) Try.func58 rfl (by kernel_rfl) (fun x => rfl) ?_
 rintro w0 Z0 ⟨x0, x1, u⟩ a w
 revert x0 x1
 intro (x0 : (List Int)) (x1 : (List Int)) hpre hlens h
 have hl1 : List.length x0 ≤ 9223372036854775807 := hlens.1.1
 have hl2 : List.length x1 ≤ 9223372036854775807 := hlens.2.1.1
 have hT : TabOK Try.prog S_laws_eqIntS_tab := .nil
 refine wp_seq ?_
 refine at_regq [] { ts := [0, 1, 4], os := [] } [] gamOK hT h (by kernel_rfl) trivial fun a w h => then_normal (wp_seq (wp_seq ?_))
 refine at_regq [] { ts := [0, 1, 4, 10], os := [] } [] gamOK hT h (by kernel_rfl) trivial fun a w h => then_normal ?_
 refine at_test (!decide (((List.length x0 : Nat) : Int) = ((List.length x1 : Nat) : Int))) h (by kernel_rfl) (fun h1 => ?_) (fun h1 => ?_)
 ·replace h1 : ¬ (((List.length x0 : Nat) : Int) = ((List.length x1 : Nat) : Int)) := of_decide_eq_false (notT h1)
  refine wp_seq ?_
  refine at_regq [] { ts := [0, 1, 4], os := [] } [] gamOK hT h (by kernel_rfl) trivial fun a w h => then_normal (wp_ret (then_ret ?_))
  exact at_return (false, ()) [] h (by kernel_rfl) trivial (congrArg (fun z => (z, ())) (show (false) = (Sh.eqB s61) x0 x1 from by exact (Sh.eqB_ne (fun e => h1 (by rw [e]))).symm))
 ·replace h1 : ((List.length x0 : Nat) : Int) = ((List.length x1 : Nat) : Int) := of_decide_eq_true (notF h1)
  refine wp_skip (then_normal (wp_seq (wp_seq ?_)))
  refine at_regq [] { ts := [0, 1, 4, 5], os := [] } [] gamOK hT h (by kernel_rfl) trivial fun a w h => then_normal (wp_block ?_)
  replace h := at_out (σ' := ⟨[(0, aF (.int 3) x0), (1, aF (.int 3) x1), (4, aB false), (5, aI 0)], []⟩) { ts := [0, 1, 4, 5], os := [] } h (by kernel_rfl)
  refine at_loop (fun i : Nat => (⟨[(0, aF (.int 3) x0), (1, aF (.int 3) x1), (4, aB false), (5, aI ((i : Nat) : Int))], []⟩ : St)) (fun i => (i ≤ List.length x0 ∧ x0.take i = x1.take i)) (fun i => List.length x0 - i) (0) h (st_congr1 (fun (d0 : Int) => (⟨[(0, aF (.int 3) x0), (1, aF (.int 3) x1), (4, aB false), (5, aI d0)], []⟩ : St)) (show (0 : Int) = (((0) : Nat) : Int) from by first | with_reducible rfl | (rfl) | rfl)) (by exact ⟨Nat.zero_le _, rfl⟩) ?_
  intro i a w hok0 h
  refine wp_seq (wp_seq ?_)
  refine at_regq [] { ts := [0, 1, 4, 5, 14], os := [] } [] gamOK hT h (by kernel_rfl) trivial fun a w h => then_normal ?_
  refine at_test (decide (((i : Nat) : Int) < ((List.length x0 : Nat) : Int))) h (by kernel_rfl) (fun h2 => ?_) (fun h2 => ?_)
  ·replace h2 : ((i : Nat) : Int) < ((List.length x0 : Nat) : Int) := of_decide_eq_true h2
   refine wp_skip (then_normal (wp_seq (wp_block (wp_seq ?_))))
   refine at_anyq [{}, {}, {}, {}, {}, {}, {}, {}, {}] { ts := [0, 1, 4, 5, 25], os := [] } [(0 : Int) ≤ ((i : Nat) : Int) ∧ ((i : Nat) : Int) < ((List.length x0 : Nat) : Int), (0 : Int) ≤ ((i : Nat) : Int) ∧ ((i : Nat) : Int) < ((List.length x1 : Nat) : Int)] gamOK hT mixed h (by kernel_rfl) ⟨(by refine ⟨?_, ?_⟩ <;> (first | omega | (simp only [lsA]; omega) | (simp <;> omega))), (by refine ⟨?_, ?_⟩ <;> (first | omega | (simp only [lsA]; omega) | (simp <;> omega))), trivial⟩ fun a w h => then_normal ?_
   refine at_test (!decide ((x0.getD i 0) = (x1.getD i 0))) h (by kernel_rfl) (fun h3 => ?_) (fun h3 => ?_)
   ·replace h3 : ¬ ((x0.getD i 0) = (x1.getD i 0)) := of_decide_eq_false (notT h3)
    refine wp_seq ?_
    refine at_regq [] { ts := [0, 1, 4, 5], os := [] } [] gamOK hT h (by kernel_rfl) trivial fun a w h => then_normal (wp_ret (in_ret (then_ret (then_ret (in_ret (then_ret ?_))))))
    exact at_return (false, ()) [] h (by kernel_rfl) trivial (congrArg (fun z => (z, ())) (show (false) = (Sh.eqB s61) x0 x1 from by exact (Sh.eqB_ne (s := s61) (fun e => h3 (by rw [e]))).symm))
   ·replace h3 : (x0.getD i 0) = (x1.getD i 0) := of_decide_eq_true (notF h3)
    refine wp_skip (in_normal (then_normal ?_))
    refine at_regq [{}, { nw := true }] { ts := [0, 1, 4, 5], os := [] } [I64 (((i : Nat) : Int) + 1)] gamOK hT h (by kernel_rfl) ⟨⟨by first | omega | (simp only [lsA]; omega) | (simp <;> omega), by first | omega | (simp only [lsA]; omega) | (simp <;> omega)⟩, trivial⟩ fun a w h => ?_
    replace h := at_out (σ' := ⟨[(0, aF (.int 3) x0), (1, aF (.int 3) x1), (4, aB false), (5, aI (((i : Nat) : Int) + 1))], []⟩) { ts := [0, 1, 4, 5], os := [] } h (by kernel_rfl)
    exact ⟨i + 1, at_eq h (st_congr1 (fun (d0 : Int) => (⟨[(0, aF (.int 3) x0), (1, aF (.int 3) x1), (4, aB false), (5, aI d0)], []⟩ : St)) (show (((i : Nat) : Int) + 1 : Int) = (((i + 1) : Nat) : Int) from by first | with_reducible rfl | (omega) | rfl)), (by exact ⟨by omega, eqTo_step (z := 0) (by omega) (by omega) hok0.2 h3⟩), (by omega)⟩
  ·replace h2 : ¬ (((i : Nat) : Int) < ((List.length x0 : Nat) : Int)) := of_decide_eq_false h2
   refine wp_exit (then_exit (then_exit (in_hit (then_normal (wp_seq ?_)))))
   refine at_regq [] { ts := [4], os := [] } [] gamOK hT h (by kernel_rfl) trivial fun a w h => then_normal (wp_ret ?_)
   exact at_return (true, ()) [] h (by kernel_rfl) trivial (congrArg (fun z => (z, ())) (show (true) = (Sh.eqB s61) x0 x1 from by (have e := hok0.2; rw [take_all (by omega), take_all (by omega)] at e; exact ((Sh.eqB_iff s61).2 e).symm)))

def S_laws_eqCodedPacket : Sum := { fid := 59, dom := [s78, s78], cod := [(.bool 4)], dp := true, fz := false, pre := fun x => True, g := fun x => (((Sh.eqB s78) x.1 x.2.1), ()) }
def S_laws_eqCodedPacket_tab : List (Nat × Sum) := [(58, S_laws_eqIntS)]
theorem S_laws_eqCodedPacket_ok : FnOK Try.prog 59 S_laws_eqCodedPacket := by
 refine at_enter 22 (fun x => ⟨[(0, aG [cI x.1.1, .ro (.int 3) x.1.2.1, .ro (.int 3) x.1.2.2]), (1, aG [cI x.2.1.1, .ro (.int 3) x.2.1.2.1, .ro (.int 3) x.2.1.2.2])], []⟩) Try.func59 rfl (by kernel_rfl) (fun x => rfl) ?_
 rintro w0 Z0 ⟨x0, x1, u⟩ a w
 revert x0 x1
 intro (x0 : T78) (x1 : T78) hpre hlens h
 have hl1 : List.length x0.2.1 ≤ 9223372036854775807 := hlens.1.2.1.1
 have hl2 : List.length x0.2.2 ≤ 9223372036854775807 := hlens.1.2.2.1
 have hl3 : List.length x1.2.1 ≤ 9223372036854775807 := hlens.2.1.2.1.1
 have hl4 : List.length x1.2.2 ≤ 9223372036854775807 := hlens.2.1.2.2.1
 have hT : TabOK Try.prog S_laws_eqCodedPacket_tab := (.cons S_laws_eqIntS_ok .nil)
 refine wp_seq ?_
 refine at_regq [{ ids := [1] }, { ids := [2] }] { ts := [2, 3, 4], os := [1, 2] } [] gamOK hT h (by kernel_rfl) trivial fun a w h => then_normal (wp_seq (wp_seq ?_))
 refine at_regq [] { ts := [2, 3, 4, 9], os := [1, 2] } [] gamOK hT h (by kernel_rfl) trivial fun a w h => then_normal ?_
 refine at_test (!decide (x0.1 = x1.1)) h (by kernel_rfl) (fun h1 => ?_) (fun h1 => ?_)
 ·replace h1 : ¬ (x0.1 = x1.1) := of_decide_eq_false (notT h1)
  refine wp_seq ?_
  refine at_regq [] { ts := [2, 3, 4], os := [1, 2] } [] gamOK hT h (by kernel_rfl) trivial fun a w h => then_normal (wp_ret (then_ret ?_))
  exact at_return (false, ()) [] h (by kernel_rfl) trivial (congrArg (fun z => (z, ())) (show (false) = (Sh.eqB s78) x0 x1 from by exact (Sh.eqB_ne (s := s78) (fun e => h1 (congrArg (fun (y : T78) => y.1) e))).symm))
 ·replace h1 : x0.1 = x1.1 := of_decide_eq_true (notF h1)
  refine wp_skip (then_normal (wp_seq (wp_seq ?_)))
  refine at_regq [] { ts := [2, 3, 4, 15], os := [1, 2] } [True] gamOK hT h (by kernel_rfl) ⟨trivial, trivial⟩ fun a w h => then_normal ?_
  refine at_test (!((Sh.eqB s61) x0.2.1 x1.2.1)) h (by kernel_rfl) (fun h2 => ?_) (fun h2 => ?_)
  ·replace h2 : ((Sh.eqB s61) x0.2.1 x1.2.1) = false := notT h2
   refine wp_seq ?_
   refine at_regq [] { ts := [2, 3, 4], os := [1, 2] } [] gamOK hT h (by kernel_rfl) trivial fun a w h => then_normal (wp_ret (then_ret ?_))
   exact at_return (false, ()) [] h (by kernel_rfl) trivial (congrArg (fun z => (z, ())) (show (false) = (Sh.eqB s78) x0 x1 from by exact (Sh.eqB_ne (s := s78) (fun e => Sh.of_eqB_ne h2 (congrArg (fun (y : T78) => y.2.1) e))).symm))
  ·replace h2 : ((Sh.eqB s61) x0.2.1 x1.2.1) = true := notF h2
   refine wp_skip (then_normal (wp_seq (wp_seq ?_)))
   refine at_regq [] { ts := [4, 21], os := [] } [True] gamOK hT h (by kernel_rfl) ⟨trivial, trivial⟩ fun a w h => then_normal ?_
   refine at_test (!((Sh.eqB s61) x0.2.2 x1.2.2)) h (by kernel_rfl) (fun h3 => ?_) (fun h3 => ?_)
   ·replace h3 : ((Sh.eqB s61) x0.2.2 x1.2.2) = false := notT h3
    refine wp_seq ?_
    refine at_regq [] { ts := [4], os := [] } [] gamOK hT h (by kernel_rfl) trivial fun a w h => then_normal (wp_ret (then_ret ?_))
    exact at_return (false, ()) [] h (by kernel_rfl) trivial (congrArg (fun z => (z, ())) (show (false) = (Sh.eqB s78) x0 x1 from by exact (Sh.eqB_ne (s := s78) (fun e => Sh.of_eqB_ne h3 (congrArg (fun (y : T78) => y.2.2) e))).symm))
   ·replace h3 : ((Sh.eqB s61) x0.2.2 x1.2.2) = true := notF h3
    refine wp_skip (then_normal (wp_seq ?_))
    refine at_regq [] { ts := [4], os := [] } [] gamOK hT h (by kernel_rfl) trivial fun a w h => then_normal (wp_ret ?_)
    exact at_return (true, ()) [] h (by kernel_rfl) trivial (congrArg (fun z => (z, ())) (show (true) = (Sh.eqB s78) x0 x1 from by exact ((Sh.eqB_iff s78).2 (Prod.ext h1 (Prod.ext (Sh.of_eqB h2) (Sh.of_eqB h3)))).symm))

def S_laws_eqCodedPacketS : Sum := { fid := 53, dom := [s41, s41], cod := [(.bool 4)], dp := true, fz := false, pre := fun x => True, g := fun x => (((Sh.eqB s41) x.1 x.2.1), ()) }
def S_laws_eqCodedPacketS_tab : List (Nat × Sum) := [(59, S_laws_eqCodedPacket)]
theorem S_laws_eqCodedPacketS_ok : FnOK Try.prog 53 S_laws_eqCodedPacketS := by
 refine at_enter 27 (fun x => ⟨[(0, aF s78 x.1), (1, aF s78 x.2.1)], []⟩) Try.func53 rfl (by kernel_rfl) (fun x => rfl) ?_
 rintro w0 Z0 ⟨x0, x1, u⟩ a w
 revert x0 x1
 intro (x0 : (List T78)) (x1 : (List T78)) hpre hlens h
 have hl1 : List.length x0 ≤ 9223372036854775807 := hlens.1.1
 have hl2 : List.length x1 ≤ 9223372036854775807 := hlens.2.1.1
 have hT : TabOK Try.prog S_laws_eqCodedPacketS_tab := (.cons S_laws_eqCodedPacket_ok .nil)
 refine wp_seq ?_
 refine at_regq [] { ts := [0, 1, 4], os := [] } [] gamOK hT h (by kernel_rfl) trivial fun a w h => then_normal (wp_seq (wp_seq ?_))
 refine at_regq [] { ts := [0, 1, 4, 10], os := [] } [] gamOK hT h (by kernel_rfl) trivial fun a w h => then_normal ?_
 refine at_test (!decide (((List.length x0 : Nat) : Int) = ((List.length x1 : Nat) : Int))) h (by kernel_rfl) (fun h1 => ?_) (fun h1 => ?_)
 ·replace h1 : ¬ (((List.length x0 : Nat) : Int) = ((List.length x1 : Nat) : Int)) := of_decide_eq_false (notT h1)
  refine wp_seq ?_
  refine at_regq [] { ts := [0, 1, 4], os := [] } [] gamOK hT h (by kernel_rfl) trivial fun a w h => then_normal (wp_ret (then_ret ?_))
  exact at_return (false, ()) [] h (by kernel_rfl) trivial (congrArg (fun z => (z, ())) (show (false) = (Sh.eqB s41) x0 x1 from by exact (Sh.eqB_ne (fun e => h1 (by rw [e]))).symm))
 ·replace h1 : ((List.length x0 : Nat) : Int) = ((List.length x1 : Nat) : Int) := of_decide_eq_true (notF h1)
  refine wp_skip (then_normal (wp_seq (wp_seq ?_)))
  refine at_regq [] { ts := [0, 1, 4, 5], os := [] } [] gamOK hT h (by kernel_rfl) trivial fun a w h => then_normal (wp_block ?_)
  replace h := at_out (σ' := ⟨[(0, aF s78 x0), (1, aF s78 x1), (4, aB false), (5, aI 0)], []⟩) { ts := [0, 1, 4, 5], os := [] } h (by kernel_rfl)
  refine at_loop (fun i : Nat => (⟨[(0, aF s78 x0), (1, aF s78 x1), (4, aB false), (5, aI ((i : Nat) : Int))], []⟩ : St)) (fun i => (i ≤ List.length x0 ∧ x0.take i = x1.take i)) (fun i => List.length x0 - i) (0) h (st_congr1 (fun (d0 : Int) => (⟨[(0, aF s78 x0), (1, aF s78 x1), (4, aB false), (5, aI d0)], []⟩ : St)) (show (0 : Int) = (((0) : Nat) : Int) from by first | with_reducible rfl | (rfl) | rfl)) (by exact ⟨Nat.zero_le _, rfl⟩) ?_
  intro i a w hok0 h
  refine wp_seq (wp_seq ?_)
  refine at_regq [] { ts := [0, 1, 4, 5, 14], os := [] } [] gamOK hT h (by kernel_rfl) trivial fun a w h => then_normal ?_
  refine at_test (decide (((i : Nat) : Int) < ((List.length x0 : Nat) : Int))) h (by kernel_rfl) (fun h2 => ?_) (fun h2 => ?_)
  ·replace h2 : ((i : Nat) : Int) < ((List.length x0 : Nat) : Int) := of_decide_eq_true h2
   refine wp_skip (then_normal (wp_seq (wp_block (wp_seq ?_))))
   refine at_anyq [{}, {}, {}, {}, {}, {}, {}, {}, {}, {}] { ts := [0, 1, 4, 5, 26], os := [] } [(0 : Int) ≤ ((i : Nat) : Int) ∧ ((i : Nat) : Int) < ((List.length x0 : Nat) : Int), (0 : Int) ≤ ((i : Nat) : Int) ∧ ((i : Nat) : Int) < ((List.length x1 : Nat) : Int), True] gamOK hT mixed h (by kernel_rfl) ⟨(by refine ⟨?_, ?_⟩ <;> (first | omega | (simp only [lsA]; omega) | (simp <;> omega))), (by refine ⟨?_, ?_⟩ <;> (first | omega | (simp only [lsA]; omega) | (simp <;> omega))), trivial, trivial⟩ fun a w h => then_normal ?_
   refine at_test (!((Sh.eqB s78) (x0.getD i (0, ([], []))) (x1.getD i (0, ([], []))))) h (by kernel_rfl) (fun h3 => ?_) (fun h3 => ?_)
   ·replace h3 : ((Sh.eqB s78) (x0.getD i (0, ([], []))) (x1.getD i (0, ([], [])))) = false := notT h3
    refine wp_seq ?_
    refine at_regq [] { ts := [0, 1, 4, 5], os := [] } [] gamOK hT h (by kernel_rfl) trivial fun a w h => then_normal (wp_ret (in_ret (then_ret (then_ret (in_ret (then_ret ?_))))))
    exact at_return (false, ()) [] h (by kernel_rfl) trivial (congrArg (fun z => (z, ())) (show (false) = (Sh.eqB s41) x0 x1 from by exact (Sh.eqB_ne (s := s41) (fun e => Sh.of_eqB_ne h3 (by rw [e]))).symm))
   ·replace h3 : ((Sh.eqB s78) (x0.getD i (0, ([], []))) (x1.getD i (0, ([], [])))) = true := notF h3
    refine wp_skip (in_normal (then_normal ?_))
    refine at_regq [{}, { nw := true }] { ts := [0, 1, 4, 5], os := [] } [I64 (((i : Nat) : Int) + 1)] gamOK hT h (by kernel_rfl) ⟨⟨by first | omega | (simp only [lsA]; omega) | (simp <;> omega), by first | omega | (simp only [lsA]; omega) | (simp <;> omega)⟩, trivial⟩ fun a w h => ?_
    replace h := at_out (σ' := ⟨[(0, aF s78 x0), (1, aF s78 x1), (4, aB false), (5, aI (((i : Nat) : Int) + 1))], []⟩) { ts := [0, 1, 4, 5], os := [] } h (by kernel_rfl)
    exact ⟨i + 1, at_eq h (st_congr1 (fun (d0 : Int) => (⟨[(0, aF s78 x0), (1, aF s78 x1), (4, aB false), (5, aI d0)], []⟩ : St)) (show (((i : Nat) : Int) + 1 : Int) = (((i + 1) : Nat) : Int) from by first | with_reducible rfl | (omega) | rfl)), (by exact ⟨by omega, eqTo_step (z := (0, ([], []))) (by omega) (by omega) hok0.2 (Sh.of_eqB h3)⟩), (by omega)⟩
  ·replace h2 : ¬ (((i : Nat) : Int) < ((List.length x0 : Nat) : Int)) := of_decide_eq_false h2
   refine wp_exit (then_exit (then_exit (in_hit (then_normal (wp_seq ?_)))))
   refine at_regq [] { ts := [4], os := [] } [] gamOK hT h (by kernel_rfl) trivial fun a w h => then_normal (wp_ret ?_)
   exact at_return (true, ()) [] h (by kernel_rfl) trivial (congrArg (fun z => (z, ())) (show (true) = (Sh.eqB s41) x0 x1 from by (have e := hok0.2; rw [take_all (by omega), take_all (by omega)] at e; exact ((Sh.eqB_iff s41).2 e).symm)))

def S_laws_eqFeedback : Sum := { fid := 54, dom := [s75, s75], cod := [(.bool 4)], dp := true, fz := false, pre := fun x => True, g := fun x => (((Sh.eqB s75) x.1 x.2.1), ()) }
def S_laws_eqFeedback_tab : List (Nat × Sum) := []
theorem S_laws_eqFeedback_ok : FnOK Try.prog 54 S_laws_eqFeedback := by
 refine at_enter 20 (fun x => ⟨[(0, aG [cI x.1.1, cI x.1.2.1, cI x.1.2.2]), (1, aG [cI x.2.1.1, cI x.2.1.2.1, cI x.2.1.2.2])], []⟩) Try.func54 rfl (by kernel_rfl) (fun x => rfl) ?_
 rintro w0 Z0 ⟨x0, x1, u⟩ a w
 revert x0 x1
 intro (x0 : T75) (x1 : T75) hpre hlens h
 have hT : TabOK Try.prog S_laws_eqFeedback_tab := .nil
 refine wp_seq ?_
 refine at_regq [{ ids := [1] }, { ids := [2] }] { ts := [2, 3, 4], os := [1, 2] } [] gamOK hT h (by kernel_rfl) trivial fun a w h => then_normal (wp_seq (wp_seq ?_))
 refine at_regq [] { ts := [2, 3, 4, 9], os := [1, 2] } [] gamOK hT h (by kernel_rfl) trivial fun a w h => then_normal ?_
 refine at_test (!decide (x0.1 = x1.1)) h (by kernel_rfl) (fun h1 => ?_) (fun h1 => ?_)
 ·replace h1 : ¬ (x0.1 = x1.1) := of_decide_eq_false (notT h1)
  refine wp_seq ?_
  refine at_regq [] { ts := [2, 3, 4], os := [1, 2] } [] gamOK hT h (by kernel_rfl) trivial fun a w h => then_normal (wp_ret (then_ret ?_))
  exact at_return (false, ()) [] h (by kernel_rfl) trivial (congrArg (fun z => (z, ())) (show (false) = (Sh.eqB s75) x0 x1 from by exact (Sh.eqB_ne (s := s75) (fun e => h1 (congrArg (fun (y : T75) => y.1) e))).symm))
 ·replace h1 : x0.1 = x1.1 := of_decide_eq_true (notF h1)
  refine wp_skip (then_normal (wp_seq (wp_seq ?_)))
  refine at_regq [] { ts := [2, 3, 4, 14], os := [1, 2] } [] gamOK hT h (by kernel_rfl) trivial fun a w h => then_normal ?_
  refine at_test (!decide (x0.2.1 = x1.2.1)) h (by kernel_rfl) (fun h2 => ?_) (fun h2 => ?_)
  ·replace h2 : ¬ (x0.2.1 = x1.2.1) := of_decide_eq_false (notT h2)
   refine wp_seq ?_
   refine at_regq [] { ts := [2, 3, 4], os := [1, 2] } [] gamOK hT h (by kernel_rfl) trivial fun a w h => then_normal (wp_ret (then_ret ?_))
   exact at_return (false, ()) [] h (by kernel_rfl) trivial (congrArg (fun z => (z, ())) (show (false) = (Sh.eqB s75) x0 x1 from by exact (Sh.eqB_ne (s := s75) (fun e => h2 (congrArg (fun (y : T75) => y.2.1) e))).symm))
  ·replace h2 : x0.2.1 = x1.2.1 := of_decide_eq_true (notF h2)
   refine wp_skip (then_normal (wp_seq (wp_seq ?_)))
   refine at_regq [] { ts := [4, 19], os := [] } [] gamOK hT h (by kernel_rfl) trivial fun a w h => then_normal ?_
   refine at_test (!decide (x0.2.2 = x1.2.2)) h (by kernel_rfl) (fun h3 => ?_) (fun h3 => ?_)
   ·replace h3 : ¬ (x0.2.2 = x1.2.2) := of_decide_eq_false (notT h3)
    refine wp_seq ?_
    refine at_regq [] { ts := [4], os := [] } [] gamOK hT h (by kernel_rfl) trivial fun a w h => then_normal (wp_ret (then_ret ?_))
    exact at_return (false, ()) [] h (by kernel_rfl) trivial (congrArg (fun z => (z, ())) (show (false) = (Sh.eqB s75) x0 x1 from by exact (Sh.eqB_ne (s := s75) (fun e => h3 (congrArg (fun (y : T75) => y.2.2) e))).symm))
   ·replace h3 : x0.2.2 = x1.2.2 := of_decide_eq_true (notF h3)
    refine wp_skip (then_normal (wp_seq ?_))
    refine at_regq [] { ts := [4], os := [] } [] gamOK hT h (by kernel_rfl) trivial fun a w h => then_normal (wp_ret ?_)
    exact at_return (true, ()) [] h (by kernel_rfl) trivial (congrArg (fun z => (z, ())) (show (true) = (Sh.eqB s75) x0 x1 from by exact ((Sh.eqB_iff s75).2 (Prod.ext h1 (Prod.ext h2 h3))).symm))

def S_laws_eqFeedbackS : Sum := { fid := 42, dom := [s27, s27], cod := [(.bool 4)], dp := true, fz := false, pre := fun x => True, g := fun x => (((Sh.eqB s27) x.1 x.2.1), ()) }
def S_laws_eqFeedbackS_tab : List (Nat × Sum) := [(54, S_laws_eqFeedback)]
theorem S_laws_eqFeedbackS_ok : FnOK Try.prog 42 S_laws_eqFeedbackS := by
 refine at_enter 27 (fun x => ⟨[(0, aF s75 x.1), (1, aF s75 x.2.1)], []⟩) Try.func42 rfl (by kernel_rfl) (fun x => rfl) ?_
 rintro w0 Z0 ⟨x0, x1, u⟩ a w
 revert x0 x1
 intro (x0 : (List T75)) (x1 : (List T75)) hpre hlens h
 have hl1 : List.length x0 ≤ 9223372036854775807 := hlens.1.1
 have hl2 : List.length x1 ≤ 9223372036854775807 := hlens.2.1.1
 have hT : TabOK Try.prog S_laws_eqFeedbackS_tab := (.cons S_laws_eqFeedback_ok .nil)
 refine wp_seq ?_
 refine at_regq [] { ts := [0, 1, 4], os := [] } [] gamOK hT h (by kernel_rfl) trivial fun a w h => then_normal (wp_seq (wp_seq ?_))
 refine at_regq [] { ts := [0, 1, 4, 10], os := [] } [] gamOK hT h (by kernel_rfl) trivial fun a w h => then_normal ?_
 refine at_test (!decide (((List.length x0 : Nat) : Int) = ((List.length x1 : Nat) : Int))) h (by kernel_rfl) (fun h1 => ?_) (fun h1 => ?_)
 ·replace h1 : ¬ (((List.length x0 : Nat) : Int) = ((List.length x1 : Nat) : Int)) := of_decide_eq_false (notT h1)
  refine wp_seq ?_
  refine at_regq [] { ts := [0, 1, 4], os := [] } [] gamOK hT h (by kernel_rfl) trivial fun a w h => then_normal (wp_ret (then_ret ?_))
  exact at_return (false, ()) [] h (by kernel_rfl) trivial (congrArg (fun z => (z, ())) (show (false) = (Sh.eqB s27) x0 x1 from by exact (Sh.eqB_ne (fun e => h1 (by rw [e]))).symm))
 ·replace h1 : ((List.length x0 : Nat) : Int) = ((List.length x1 : Nat) : Int) := of_decide_eq_true (notF h1)
  refine wp_skip (then_normal (wp_seq (wp_seq ?_)))
  refine at_regq [] { ts := [0, 1, 4, 5], os := [] } [] gamOK hT h (by kernel_rfl) trivial fun a w h => then_normal (wp_block ?_)
  replace h := at_out (σ' := ⟨[(0, aF s75 x0), (1, aF s75 x1), (4, aB false), (5, aI 0)], []⟩) { ts := [0, 1, 4, 5], os := [] } h (by kernel_rfl)
  refine at_loop (fun i : Nat => (⟨[(0, aF s75 x0), (1, aF s75 x1), (4, aB false), (5, aI ((i : Nat) : Int))], []⟩ : St)) (fun i => (i ≤ List.length x0 ∧ x0.take i = x1.take i)) (fun i => List.length x0 - i) (0) h (st_congr1 (fun (d0 : Int) => (⟨[(0, aF s75 x0), (1, aF s75 x1), (4, aB false), (5, aI d0)], []⟩ : St)) (show (0 : Int) = (((0) : Nat) : Int) from by first | with_reducible rfl | (rfl) | rfl)) (by exact ⟨Nat.zero_le _, rfl⟩) ?_
  intro i a w hok0 h
  refine wp_seq (wp_seq ?_)
  refine at_regq [] { ts := [0, 1, 4, 5, 14], os := [] } [] gamOK hT h (by kernel_rfl) trivial fun a w h => then_normal ?_
  refine at_test (decide (((i : Nat) : Int) < ((List.length x0 : Nat) : Int))) h (by kernel_rfl) (fun h2 => ?_) (fun h2 => ?_)
  ·replace h2 : ((i : Nat) : Int) < ((List.length x0 : Nat) : Int) := of_decide_eq_true h2
   refine wp_skip (then_normal (wp_seq (wp_block (wp_seq ?_))))
   refine at_anyq [{}, {}, {}, {}, {}, {}, {}, {}, {}, {}] { ts := [0, 1, 4, 5, 26], os := [] } [(0 : Int) ≤ ((i : Nat) : Int) ∧ ((i : Nat) : Int) < ((List.length x0 : Nat) : Int), (0 : Int) ≤ ((i : Nat) : Int) ∧ ((i : Nat) : Int) < ((List.length x1 : Nat) : Int), True] gamOK hT mixed h (by kernel_rfl) ⟨(by refine ⟨?_, ?_⟩ <;> (first | omega | (simp only [lsA]; omega) | (simp <;> omega))), (by refine ⟨?_, ?_⟩ <;> (first | omega | (simp only [lsA]; omega) | (simp <;> omega))), trivial, trivial⟩ fun a w h => then_normal ?_
   refine at_test (!((Sh.eqB s75) (x0.getD i (0, (0, 0))) (x1.getD i (0, (0, 0))))) h (by kernel_rfl) (fun h3 => ?_) (fun h3 => ?_)
   ·replace h3 : ((Sh.eqB s75) (x0.getD i (0, (0, 0))) (x1.getD i (0, (0, 0)))) = false := notT h3
    refine wp_seq ?_
    refine at_regq [] { ts := [0, 1, 4, 5], os := [] } [] gamOK hT h (by kernel_rfl) trivial fun a w h => then_normal (wp_ret (in_ret (then_ret (then_ret (in_ret (then_ret ?_))))))
    exact at_return (false, ()) [] h (by kernel_rfl) trivial (congrArg (fun z => (z, ())) (show (false) = (Sh.eqB s27) x0 x1 from by exact (Sh.eqB_ne (s := s27) (fun e => Sh.of_eqB_ne h3 (by rw [e]))).symm))
   ·replace h3 : ((Sh.eqB s75) (x0.getD i (0, (0, 0))) (x1.getD i (0, (0, 0)))) = true := notF h3
    refine wp_skip (in_normal (then_normal ?_))
    refine at_regq [{}, { nw := true }] { ts := [0, 1, 4, 5], os := [] } [I64 (((i : Nat) : Int) + 1)] gamOK hT h (by kernel_rfl) ⟨⟨by first | omega | (simp only [lsA]; omega) | (simp <;> omega), by first | omega | (simp only [lsA]; omega) | (simp <;> omega)⟩, trivial⟩ fun a w h => ?_
    replace h := at_out (σ' := ⟨[(0, aF s75 x0), (1, aF s75 x1), (4, aB false), (5, aI (((i : Nat) : Int) + 1))], []⟩) { ts := [0, 1, 4, 5], os := [] } h (by kernel_rfl)
    exact ⟨i + 1, at_eq h (st_congr1 (fun (d0 : Int) => (⟨[(0, aF s75 x0), (1, aF s75 x1), (4, aB false), (5, aI d0)], []⟩ : St)) (show (((i : Nat) : Int) + 1 : Int) = (((i + 1) : Nat) : Int) from by first | with_reducible rfl | (omega) | rfl)), (by exact ⟨by omega, eqTo_step (z := (0, (0, 0))) (by omega) (by omega) hok0.2 (Sh.of_eqB h3)⟩), (by omega)⟩
  ·replace h2 : ¬ (((i : Nat) : Int) < ((List.length x0 : Nat) : Int)) := of_decide_eq_false h2
   refine wp_exit (then_exit (then_exit (in_hit (then_normal (wp_seq ?_)))))
   refine at_regq [] { ts := [4], os := [] } [] gamOK hT h (by kernel_rfl) trivial fun a w h => then_normal (wp_ret ?_)
   exact at_return (true, ()) [] h (by kernel_rfl) trivial (congrArg (fun z => (z, ())) (show (true) = (Sh.eqB s27) x0 x1 from by (have e := hok0.2; rw [take_all (by omega), take_all (by omega)] at e; exact ((Sh.eqB_iff s27).2 e).symm)))

def S_laws_eqFeedbackTable : Sum := { fid := 24, dom := [s29, s29], cod := [(.bool 4)], dp := true, fz := false, pre := fun x => True, g := fun x => (((Sh.eqB s29) x.1 x.2.1), ()) }
def S_laws_eqFeedbackTable_tab : List (Nat × Sum) := [(42, S_laws_eqFeedbackS)]
theorem S_laws_eqFeedbackTable_ok : FnOK Try.prog 24 S_laws_eqFeedbackTable := by
 refine at_enter 11 (fun x => ⟨[(0, aG [.ro s75 x.1]), (1, aG [.ro s75 x.2.1])], []⟩) Try.func24 rfl (by kernel_rfl) (fun x => rfl) ?_
 rintro w0 Z0 ⟨x0, x1, u⟩ a w
 revert x0 x1
 intro (x0 : (List T75)) (x1 : (List T75)) hpre hlens h
 have hl1 : List.length x0 ≤ 9223372036854775807 := hlens.1.1
 have hl2 : List.length x1 ≤ 9223372036854775807 := hlens.2.1.1
 have hT : TabOK Try.prog S_laws_eqFeedbackTable_tab := (.cons S_laws_eqFeedbackS_ok .nil)
 refine wp_seq ?_
 refine at_regq [{ ids := [1] }, { ids := [2] }] { ts := [2, 3, 4], os := [1, 2] } [] gamOK hT h (by kernel_rfl) trivial fun a w h => then_normal (wp_seq (wp_seq ?_))
 refine at_regq [] { ts := [4, 10], os := [] } [True] gamOK hT h (by kernel_rfl) ⟨trivial, trivial⟩ fun a w h => then_normal ?_
 refine at_test (!((Sh.eqB s27) x0 x1)) h (by kernel_rfl) (fun h1 => ?_) (fun h1 => ?_)
 ·replace h1 : ((Sh.eqB s27) x0 x1) = false := notT h1
  refine wp_seq ?_
  refine at_regq [] { ts := [4], os := [] } [] gamOK hT h (by kernel_rfl) trivial fun a w h => then_normal (wp_ret (then_ret ?_))
  exact at_return (false, ()) [] h (by kernel_rfl) trivial (congrArg (fun z => (z, ())) (show (false) = (Sh.eqB s29) x0 x1 from by exact (Sh.eqB_ne (s := s29) (fun e => Sh.of_eqB_ne h1 e)).symm))
 ·replace h1 : ((Sh.eqB s27) x0 x1) = true := notF h1
  refine wp_skip (then_normal (wp_seq ?_))
  refine at_regq [] { ts := [4], os := [] } [] gamOK hT h (by kernel_rfl) trivial fun a w h => then_normal (wp_ret ?_)
  exact at_return (true, ()) [] h (by kernel_rfl) trivial (congrArg (fun z => (z, ())) (show (true) = (Sh.eqB s29) x0 x1 from by exact ((Sh.eqB_iff s29).2 (Sh.of_eqB h1)).symm))

def S_laws_eqIntSS : Sum := { fid := 52, dom := [s45, s45], cod := [(.bool 4)], dp := true, fz := false, pre := fun x => True, g := fun x => (((Sh.eqB s45) x.1 x.2.1), ()) }
def S_laws_eqIntSS_tab : List (Nat × Sum) := [(58, S_laws_eqIntS)]
theorem S_laws_eqIntSS_ok : FnOK Try.prog 52 S_laws_eqIntSS := by
 refine at_enter 27 (fun x => ⟨[(0, aF s61 x.1), (1, aF s61 x.2.1)], []⟩) Try.func52 rfl (by kernel_rfl) (fun x => rfl) ?_
 rintro w0 Z0 ⟨x0, x1, u⟩ a w
 revert x0 x1
 intro (x0 : (List (List Int))) (x1 : (List (List Int))) hpre hlens h
 have hl1 : List.length x0 ≤ 9223372036854775807 := hlens.1.1
 have hl2 : List.length x1 ≤ 9223372036854775807 := hlens.2.1.1
 have hT : TabOK Try.prog S_laws_eqIntSS_tab := (.cons S_laws_eqIntS_ok .nil)
 refine wp_seq ?_
 refine at_regq [] { ts := [0, 1, 4], os := [] } [] gamOK hT h (by kernel_rfl) trivial fun a w h => then_normal (wp_seq (wp_seq ?_))
 refine at_regq [] { ts := [0, 1, 4, 10], os := [] } [] gamOK hT h (by kernel_rfl) trivial fun a w h => then_normal ?_
 refine at_test (!decide (((List.length x0 : Nat) : Int) = ((List.length x1 : Nat) : Int))) h (by kernel_rfl) (fun h1 => ?_) (fun h1 => ?_)
 ·replace h1 : ¬ (((List.length x0 : Nat) : Int) = ((List.length x1 : Nat) : Int)) := of_decide_eq_false (notT h1)
  refine wp_seq ?_
  refine at_regq [] { ts := [0, 1, 4], os := [] } [] gamOK hT h (by kernel_rfl) trivial fun a w h => then_normal (wp_ret (then_ret ?_))
  exact at_return (false, ()) [] h (by kernel_rfl) trivial (congrArg (fun z => (z, ())) (show (false) = (Sh.eqB s45) x0 x1 from by exact (Sh.eqB_ne (fun e => h1 (by rw [e]))).symm))
 ·replace h1 : ((List.length x0 : Nat) : Int) = ((List.length x1 : Nat) : Int) := of_decide_eq_true (notF h1)
  refine wp_skip (then_normal (wp_seq (wp_seq ?_)))
  refine at_regq [] { ts := [0, 1, 4, 5], os := [] } [] gamOK hT h (by kernel_rfl) trivial fun a w h => then_normal (wp_block ?_)
  replace h := at_out (σ' := ⟨[(0, aF s61 x0), (1, aF s61 x1), (4, aB false), (5, aI 0)], []⟩) { ts := [0, 1, 4, 5], os := [] } h (by kernel_rfl)
  refine at_loop (fun i : Nat => (⟨[(0, aF s61 x0), (1, aF s61 x1), (4, aB false), (5, aI ((i : Nat) : Int))], []⟩ : St)) (fun i => (i ≤ List.length x0 ∧ x0.take i = x1.take i)) (fun i => List.length x0 - i) (0) h (st_congr1 (fun (d0 : Int) => (⟨[(0, aF s61 x0), (1, aF s61 x1), (4, aB false), (5, aI d0)], []⟩ : St)) (show (0 : Int) = (((0) : Nat) : Int) from by first | with_reducible rfl | (rfl) | rfl)) (by exact ⟨Nat.zero_le _, rfl⟩) ?_
  intro i a w hok0 h
  refine wp_seq (wp_seq ?_)
  refine at_regq [] { ts := [0, 1, 4, 5, 14], os := [] } [] gamOK hT h (by kernel_rfl) trivial fun a w h => then_normal ?_
  refine at_test (decide (((i : Nat) : Int) < ((List.length x0 : Nat) : Int))) h (by kernel_rfl) (fun h2 => ?_) (fun h2 => ?_)
  ·replace h2 : ((i : Nat) : Int) < ((List.length x0 : Nat) : Int) := of_decide_eq_true h2
   refine wp_skip (then_normal (wp_seq (wp_block (wp_seq ?_))))
   refine at_anyq [{}, {}, {}, {}, {}, {}, {}, {}, {}, {}] { ts := [0, 1, 4, 5, 26], os := [] } [(0 : Int) ≤ ((i : Nat) : Int) ∧ ((i : Nat) : Int) < ((List.length x0 : Nat) : Int), (0 : Int) ≤ ((i : Nat) : Int) ∧ ((i : Nat) : Int) < ((List.length x1 : Nat) : Int), True] gamOK hT mixed h (by kernel_rfl) ⟨(by refine ⟨?_, ?_⟩ <;> (first | omega | (simp only [lsA]; omega) | (simp <;> omega))), (by refine ⟨?_, ?_⟩ <;> (first | omega | (simp only [lsA]; omega) | (simp <;> omega))), trivial, trivial⟩ fun a w h => then_normal ?_
   refine at_test (!((Sh.eqB s61) (x0.getD i []) (x1.getD i []))) h (by kernel_rfl) (fun h3 => ?_) (fun h3 => ?_)
   ·replace h3 : ((Sh.eqB s61) (x0.getD i []) (x1.getD i [])) = false := notT h3
    refine wp_seq ?_
    refine at_regq [] { ts := [0, 1, 4, 5], os := [] } [] gamOK hT h (by kernel_rfl) trivial fun a w h => then_normal (wp_ret (in_ret (then_ret (then_ret (in_ret (then_ret ?_))))))
    exact at_return (false, ()) [] h (by kernel_rfl) trivial (congrArg (fun z => (z, ())) (show (false) = (Sh.eqB s45) x0 x1 from by exact (Sh.eqB_ne (s := s45) (fun e => Sh.of_eqB_ne h3 (by rw [e]))).symm))
   ·replace h3 : ((Sh.eqB s61) (x0.getD i []) (x1.getD i [])) = true := notF h3
    refine wp_skip (in_normal (then_normal ?_))
    refine at_regq [{}, { nw := true }] { ts := [0, 1, 4, 5], os := [] } [I64 (((i : Nat) : Int) + 1)] gamOK hT h (by kernel_rfl) ⟨⟨by first | omega | (simp only [lsA]; omega) | (simp <;> omega), by first | omega | (simp only [lsA]; omega) | (simp <;> omega)⟩, trivial⟩ fun a w h => ?_
    replace h := at_out (σ' := ⟨[(0, aF s61 x0), (1, aF s61 x1), (4, aB false), (5, aI (((i : Nat) : Int) + 1))], []⟩) { ts := [0, 1, 4, 5], os := [] } h (by kernel_rfl)
    exact ⟨i + 1, at_eq h (st_congr1 (fun (d0 : Int) => (⟨[(0, aF s61 x0), (1, aF s61 x1), (4, aB false), (5, aI d0)], []⟩ : St)) (show (((i : Nat) : Int) + 1 : Int) = (((i + 1) : Nat) : Int) from by first | with_reducible rfl | (omega) | rfl)), (by exact ⟨by omega, eqTo_step (z := []) (by omega) (by omega) hok0.2 (Sh.of_eqB h3)⟩), (by omega)⟩
  ·replace h2 : ¬ (((i : Nat) : Int) < ((List.length x0 : Nat) : Int)) := of_decide_eq_false h2
   refine wp_exit (then_exit (then_exit (in_hit (then_normal (wp_seq ?_)))))
   refine at_regq [] { ts := [4], os := [] } [] gamOK hT h (by kernel_rfl) trivial fun a w h => then_normal (wp_ret ?_)
   exact at_return (true, ()) [] h (by kernel_rfl) trivial (congrArg (fun z => (z, ())) (show (true) = (Sh.eqB s45) x0 x1 from by (have e := hok0.2; rw [take_all (by omega), take_all (by omega)] at e; exact ((Sh.eqB_iff s45).2 e).symm)))

def S_laws_eqGeneration : Sum := { fid := 40, dom := [s47, s47], cod := [(.bool 4)], dp := true, fz := false, pre := fun x => True, g := fun x => (((Sh.eqB s47) x.1 x.2.1), ()) }
def S_laws_eqGeneration_tab : List (Nat × Sum) := [(52, S_laws_eqIntSS)]
theorem S_laws_eqGeneration_ok : FnOK Try.prog 40 S_laws_eqGeneration := by
 refine at_enter 16 (fun x => ⟨[(0, aG [cI x.1.1, .ro s61 x.1.2]), (1, aG [cI x.2.1.1, .ro s61 x.2.1.2])], []⟩) Try.func40 rfl (by kernel_rfl) (fun x => rfl) ?_
 rintro w0 Z0 ⟨x0, x1, u⟩ a w
 revert x0 x1
 intro (x0 : T47) (x1 : T47) hpre hlens h
 have hl1 : List.length x0.2 ≤ 9223372036854775807 := hlens.1.2.1
 have hl2 : List.length x1.2 ≤ 9223372036854775807 := hlens.2.1.2.1
 have hT : TabOK Try.prog S_laws_eqGeneration_tab := (.cons S_laws_eqIntSS_ok .nil)
 refine wp_seq ?_
 refine at_regq [{ ids := [1] }, { ids := [2] }] { ts := [2, 3, 4], os := [1, 2] } [] gamOK hT h (by kernel_rfl) trivial fun a w h => then_normal (wp_seq (wp_seq ?_))
 refine at_regq [] { ts := [2, 3, 4, 9], os := [1, 2] } [] gamOK hT h (by kernel_rfl) trivial fun a w h => then_normal ?_
 refine at_test (!decide (x0.1 = x1.1)) h (by kernel_rfl) (fun h1 => ?_) (fun h1 => ?_)
 ·replace h1 : ¬ (x0.1 = x1.1) := of_decide_eq_false (notT h1)
  refine wp_seq ?_
  refine at_regq [] { ts := [2, 3, 4], os := [1, 2] } [] gamOK hT h (by kernel_rfl) trivial fun a w h => then_normal (wp_ret (then_ret ?_))
  exact at_return (false, ()) [] h (by kernel_rfl) trivial (congrArg (fun z => (z, ())) (show (false) = (Sh.eqB s47) x0 x1 from by exact (Sh.eqB_ne (s := s47) (fun e => h1 (congrArg (fun (y : T47) => y.1) e))).symm))
 ·replace h1 : x0.1 = x1.1 := of_decide_eq_true (notF h1)
  refine wp_skip (then_normal (wp_seq (wp_seq ?_)))
  refine at_regq [] { ts := [4, 15], os := [] } [True] gamOK hT h (by kernel_rfl) ⟨trivial, trivial⟩ fun a w h => then_normal ?_
  refine at_test (!((Sh.eqB s45) x0.2 x1.2)) h (by kernel_rfl) (fun h2 => ?_) (fun h2 => ?_)
  ·replace h2 : ((Sh.eqB s45) x0.2 x1.2) = false := notT h2
   refine wp_seq ?_
   refine at_regq [] { ts := [4], os := [] } [] gamOK hT h (by kernel_rfl) trivial fun a w h => then_normal (wp_ret (then_ret ?_))
   exact at_return (false, ()) [] h (by kernel_rfl) trivial (congrArg (fun z => (z, ())) (show (false) = (Sh.eqB s47) x0 x1 from by exact (Sh.eqB_ne (s := s47) (fun e => Sh.of_eqB_ne h2 (congrArg (fun (y : T47) => y.2) e))).symm))
  ·replace h2 : ((Sh.eqB s45) x0.2 x1.2) = true := notF h2
   refine wp_skip (then_normal (wp_seq ?_))
   refine at_regq [] { ts := [4], os := [] } [] gamOK hT h (by kernel_rfl) trivial fun a w h => then_normal (wp_ret ?_)
   exact at_return (true, ()) [] h (by kernel_rfl) trivial (congrArg (fun z => (z, ())) (show (true) = (Sh.eqB s47) x0 x1 from by exact ((Sh.eqB_iff s47).2 (Prod.ext h1 (Sh.of_eqB h2))).symm))

def S_laws_eqGenerationS : Sum := { fid := 21, dom := [s23, s23], cod := [(.bool 4)], dp := true, fz := false, pre := fun x => True, g := fun x => (((Sh.eqB s23) x.1 x.2.1), ()) }
def S_laws_eqGenerationS_tab : List (Nat × Sum) := [(40, S_laws_eqGeneration)]
theorem S_laws_eqGenerationS_ok : FnOK Try.prog 21 S_laws_eqGenerationS := by
 refine at_enter 27 (fun x => ⟨[(0, aF s47 x.1), (1, aF s47 x.2.1)], []⟩) Try.func21 rfl (by kernel_rfl) (fun x => rfl) ?_
 rintro w0 Z0 ⟨x0, x1, u⟩ a w
 revert x0 x1
 intro (x0 : (List T47)) (x1 : (List T47)) hpre hlens h
 have hl1 : List.length x0 ≤ 9223372036854775807 := hlens.1.1
 have hl2 : List.length x1 ≤ 9223372036854775807 := hlens.2.1.1
 have hT : TabOK Try.prog S_laws_eqGenerationS_tab := (.cons S_laws_eqGeneration_ok .nil)
 refine wp_seq ?_
 refine at_regq [] { ts := [0, 1, 4], os := [] } [] gamOK hT h (by kernel_rfl) trivial fun a w h => then_normal (wp_seq (wp_seq ?_))
 refine at_regq [] { ts := [0, 1, 4, 10], os := [] } [] gamOK hT h (by kernel_rfl) trivial fun a w h => then_normal ?_
 refine at_test (!decide (((List.length x0 : Nat) : Int) = ((List.length x1 : Nat) : Int))) h (by kernel_rfl) (fun h1 => ?_) (fun h1 => ?_)
 ·replace h1 : ¬ (((List.length x0 : Nat) : Int) = ((List.length x1 : Nat) : Int)) := of_decide_eq_false (notT h1)
  refine wp_seq ?_
  refine at_regq [] { ts := [0, 1, 4], os := [] } [] gamOK hT h (by kernel_rfl) trivial fun a w h => then_normal (wp_ret (then_ret ?_))
  exact at_return (false, ()) [] h (by kernel_rfl) trivial (congrArg (fun z => (z, ())) (show (false) = (Sh.eqB s23) x0 x1 from by exact (Sh.eqB_ne (fun e => h1 (by rw [e]))).symm))
 ·replace h1 : ((List.length x0 : Nat) : Int) = ((List.length x1 : Nat) : Int) := of_decide_eq_true (notF h1)
  refine wp_skip (then_normal (wp_seq (wp_seq ?_)))
  refine at_regq [] { ts := [0, 1, 4, 5], os := [] } [] gamOK hT h (by kernel_rfl) trivial fun a w h => then_normal (wp_block ?_)
  replace h := at_out (σ' := ⟨[(0, aF s47 x0), (1, aF s47 x1), (4, aB false), (5, aI 0)], []⟩) { ts := [0, 1, 4, 5], os := [] } h (by kernel_rfl)
  refine at_loop (fun i : Nat => (⟨[(0, aF s47 x0), (1, aF s47 x1), (4, aB false), (5, aI ((i : Nat) : Int))], []⟩ : St)) (fun i => (i ≤ List.length x0 ∧ x0.take i = x1.take i)) (fun i => List.length x0 - i) (0) h (st_congr1 (fun (d0 : Int) => (⟨[(0, aF s47 x0), (1, aF s47 x1), (4, aB false), (5, aI d0)], []⟩ : St)) (show (0 : Int) = (((0) : Nat) : Int) from by first | with_reducible rfl | (rfl) | rfl)) (by exact ⟨Nat.zero_le _, rfl⟩) ?_
  intro i a w hok0 h
  refine wp_seq (wp_seq ?_)
  refine at_regq [] { ts := [0, 1, 4, 5, 14], os := [] } [] gamOK hT h (by kernel_rfl) trivial fun a w h => then_normal ?_
  refine at_test (decide (((i : Nat) : Int) < ((List.length x0 : Nat) : Int))) h (by kernel_rfl) (fun h2 => ?_) (fun h2 => ?_)
  ·replace h2 : ((i : Nat) : Int) < ((List.length x0 : Nat) : Int) := of_decide_eq_true h2
   refine wp_skip (then_normal (wp_seq (wp_block (wp_seq ?_))))
   refine at_anyq [{}, {}, {}, {}, {}, {}, {}, {}, {}, {}] { ts := [0, 1, 4, 5, 26], os := [] } [(0 : Int) ≤ ((i : Nat) : Int) ∧ ((i : Nat) : Int) < ((List.length x0 : Nat) : Int), (0 : Int) ≤ ((i : Nat) : Int) ∧ ((i : Nat) : Int) < ((List.length x1 : Nat) : Int), True] gamOK hT mixed h (by kernel_rfl) ⟨(by refine ⟨?_, ?_⟩ <;> (first | omega | (simp only [lsA]; omega) | (simp <;> omega))), (by refine ⟨?_, ?_⟩ <;> (first | omega | (simp only [lsA]; omega) | (simp <;> omega))), trivial, trivial⟩ fun a w h => then_normal ?_
   refine at_test (!((Sh.eqB s47) (x0.getD i (0, [])) (x1.getD i (0, [])))) h (by kernel_rfl) (fun h3 => ?_) (fun h3 => ?_)
   ·replace h3 : ((Sh.eqB s47) (x0.getD i (0, [])) (x1.getD i (0, []))) = false := notT h3
    refine wp_seq ?_
    refine at_regq [] { ts := [0, 1, 4, 5], os := [] } [] gamOK hT h (by kernel_rfl) trivial fun a w h => then_normal (wp_ret (in_ret (then_ret (then_ret (in_ret (then_ret ?_))))))
    exact at_return (false, ()) [] h (by kernel_rfl) trivial (congrArg (fun z => (z, ())) (show (false) = (Sh.eqB s23) x0 x1 from by exact (Sh.eqB_ne (s := s23) (fun e => Sh.of_eqB_ne h3 (by rw [e]))).symm))
   ·replace h3 : ((Sh.eqB s47) (x0.getD i (0, [])) (x1.getD i (0, []))) = true := notF h3
    refine wp_skip (in_normal (then_normal ?_))
    refine at_regq [{}, { nw := true }] { ts := [0, 1, 4, 5], os := [] } [I64 (((i : Nat) : Int) + 1)] gamOK hT h (by kernel_rfl) ⟨⟨by first | omega | (simp only [lsA]; omega) | (simp <;> omega), by first | omega | (simp only [lsA]; omega) | (simp <;> omega)⟩, trivial⟩ fun a w h => ?_
    replace h := at_out (σ' := ⟨[(0, aF s47 x0), (1, aF s47 x1), (4, aB false), (5, aI (((i : Nat) : Int) + 1))], []⟩) { ts := [0, 1, 4, 5], os := [] } h (by kernel_rfl)
    exact ⟨i + 1, at_eq h (st_congr1 (fun (d0 : Int) => (⟨[(0, aF s47 x0), (1, aF s47 x1), (4, aB false), (5, aI d0)], []⟩ : St)) (show (((i : Nat) : Int) + 1 : Int) = (((i + 1) : Nat) : Int) from by first | with_reducible rfl | (omega) | rfl)), (by exact ⟨by omega, eqTo_step (z := (0, [])) (by omega) (by omega) hok0.2 (Sh.of_eqB h3)⟩), (by omega)⟩
  ·replace h2 : ¬ (((i : Nat) : Int) < ((List.length x0 : Nat) : Int)) := of_decide_eq_false h2
   refine wp_exit (then_exit (then_exit (in_hit (then_normal (wp_seq ?_)))))
   refine at_regq [] { ts := [4], os := [] } [] gamOK hT h (by kernel_rfl) trivial fun a w h => then_normal (wp_ret ?_)
   exact at_return (true, ()) [] h (by kernel_rfl) trivial (congrArg (fun z => (z, ())) (show (true) = (Sh.eqB s23) x0 x1 from by (have e := hok0.2; rw [take_all (by omega), take_all (by omega)] at e; exact ((Sh.eqB_iff s23).2 e).symm)))

def S_laws_eqRecoder : Sum := { fid := 41, dom := [s43, s43], cod := [(.bool 4)], dp := true, fz := false, pre := fun x => True, g := fun x => (((Sh.eqB s43) x.1 x.2.1), ()) }
def S_laws_eqRecoder_tab : List (Nat × Sum) := [(53, S_laws_eqCodedPacketS)]
theorem S_laws_eqRecoder_ok : FnOK Try.prog 41 S_laws_eqRecoder := by
 refine at_enter 31 (fun x => ⟨[(0, aG [cI x.1.1, cI x.1.2.1, cI x.1.2.2.1, .ro s78 x.1.2.2.2.1, cI x.1.2.2.2.2]), (1, aG [cI x.2.1.1, cI x.2.1.2.1, cI x.2.1.2.2.1, .ro s78 x.2.1.2.2.2.1, cI x.2.1.2.2.2.2])], []⟩) Try.func41 rfl (by kernel_rfl) (fun x => rfl) ?_
 rintro w0 Z0 ⟨x0, x1, u⟩ a w
 revert x0 x1
 intro (x0 : T43) (x1 : T43) hpre hlens h
 have hl1 : List.length x0.2.2.2.1 ≤ 9223372036854775807 := hlens.1.2.2.2.1.1
 have hl2 : List.length x1.2.2.2.1 ≤ 9223372036854775807 := hlens.2.1.2.2.2.1.1
 have hT : TabOK Try.prog S_laws_eqRecoder_tab := (.cons S_laws_eqCodedPacketS_ok .nil)
 refine wp_seq ?_
 refine at_regq [{ ids := [1] }, { ids := [2] }] { ts := [2, 3, 4], os := [1, 2] } [] gamOK hT h (by kernel_rfl) trivial fun a w h => then_normal (wp_seq (wp_seq ?_))
 refine at_regq [] { ts := [2, 3, 4, 9], os := [1, 2] } [] gamOK hT h (by kernel_rfl) trivial fun a w h => then_normal ?_
 refine at_test (!decide (x0.1 = x1.1)) h (by kernel_rfl) (fun h1 => ?_) (fun h1 => ?_)
 ·replace h1 : ¬ (x0.1 = x1.1) := of_decide_eq_false (notT h1)
  refine wp_seq ?_
  refine at_regq [] { ts := [2, 3, 4], os := [1, 2] } [] gamOK hT h (by kernel_rfl) trivial fun a w h => then_normal (wp_ret (then_ret ?_))
  exact at_return (false, ()) [] h (by kernel_rfl) trivial (congrArg (fun z => (z, ())) (show (false) = (Sh.eqB s43) x0 x1 from by exact (Sh.eqB_ne (s := s43) (fun e => h1 (congrArg (fun (y : T43) => y.1) e))).symm))
 ·replace h1 : x0.1 = x1.1 := of_decide_eq_true (notF h1)
  refine wp_skip (then_normal (wp_seq (wp_seq ?_)))
  refine at_regq [] { ts := [2, 3, 4, 14], os := [1, 2] } [] gamOK hT h (by kernel_rfl) trivial fun a w h => then_normal ?_
  refine at_test (!decide (x0.2.1 = x1.2.1)) h (by kernel_rfl) (fun h2 => ?_) (fun h2 => ?_)
  ·replace h2 : ¬ (x0.2.1 = x1.2.1) := of_decide_eq_false (notT h2)
   refine wp_seq ?_
   refine at_regq [] { ts := [2, 3, 4], os := [1, 2] } [] gamOK hT h (by kernel_rfl) trivial fun a w h => then_normal (wp_ret (then_ret ?_))
   exact at_return (false, ()) [] h (by kernel_rfl) trivial (congrArg (fun z => (z, ())) (show (false) = (Sh.eqB s43) x0 x1 from by exact (Sh.eqB_ne (s := s43) (fun e => h2 (congrArg (fun (y : T43) => y.2.1) e))).symm))
  ·replace h2 : x0.2.1 = x1.2.1 := of_decide_eq_true (notF h2)
   refine wp_skip (then_normal (wp_seq (wp_seq ?_)))
   refine at_regq [] { ts := [2, 3, 4, 19], os := [1, 2] } [] gamOK hT h (by kernel_rfl) trivial fun a w h => then_normal ?_
   refine at_test (!decide (x0.2.2.1 = x1.2.2.1)) h (by kernel_rfl) (fun h3 => ?_) (fun h3 => ?_)
   ·replace h3 : ¬ (x0.2.2.1 = x1.2.2.1) := of_decide_eq_false (notT h3)
    refine wp_seq ?_
    refine at_regq [] { ts := [2, 3, 4], os := [1, 2] } [] gamOK hT h (by kernel_rfl) trivial fun a w h => then_normal (wp_ret (then_ret ?_))
    exact at_return (false, ()) [] h (by kernel_rfl) trivial (congrArg (fun z => (z, ())) (show (false) = (Sh.eqB s43) x0 x1 from by exact (Sh.eqB_ne (s := s43) (fun e => h3 (congrArg (fun (y : T43) => y.2.2.1) e))).symm))
   ·replace h3 : x0.2.2.1 = x1.2.2.1 := of_decide_eq_true (notF h3)
    refine wp_skip (then_normal (wp_seq (wp_seq ?_)))
    refine at_regq [] { ts := [2, 3, 4, 25], os := [1, 2] } [True] gamOK hT h (by kernel_rfl) ⟨trivial, trivial⟩ fun a w h => then_normal ?_
    refine at_test (!((Sh.eqB s41) x0.2.2.2.1 x1.2.2.2.1)) h (by kernel_rfl) (fun h4 => ?_) (fun h4 => ?_)
    ·replace h4 : ((Sh.eqB s41) x0.2.2.2.1 x1.2.2.2.1) = false := notT h4
     refine wp_seq ?_
     refine at_regq [] { ts := [2, 3, 4], os := [1, 2] } [] gamOK hT h (by kernel_rfl) trivial fun a w h => then_normal (wp_ret (then_ret ?_))
     exact at_return (false, ()) [] h (by kernel_rfl) trivial (congrArg (fun z => (z, ())) (show (false) = (Sh.eqB s43) x0 x1 from by exact (Sh.eqB_ne (s := s43) (fun e => Sh.of_eqB_ne h4 (congrArg (fun (y : T43) => y.2.2.2.1) e))).symm))
    ·replace h4 : ((Sh.eqB s41) x0.2.2.2.1 x1.2.2.2.1) = true := notF h4
     refine wp_skip (then_normal (wp_seq (wp_seq ?_)))
     refine at_regq [] { ts := [4, 30], os := [] } [] gamOK hT h (by kernel_rfl) trivial fun a w h => then_normal ?_
     refine at_test (!decide (x0.2.2.2.2 = x1.2.2.2.2)) h (by kernel_rfl) (fun h5 => ?_) (fun h5 => ?_)
     ·replace h5 : ¬ (x0.2.2.2.2 = x1.2.2.2.2) := of_decide_eq_false (notT h5)
      refine wp_seq ?_
      refine at_regq [] { ts := [4], os := [] } [] gamOK hT h (by kernel_rfl) trivial fun a w h => then_normal (wp_ret (then_ret ?_))
      exact at_return (false, ()) [] h (by kernel_rfl) trivial (congrArg (fun z => (z, ())) (show (false) = (Sh.eqB s43) x0 x1 from by exact (Sh.eqB_ne (s := s43) (fun e => h5 (congrArg (fun (y : T43) => y.2.2.2.2) e))).symm))
     ·replace h5 : x0.2.2.2.2 = x1.2.2.2.2 := of_decide_eq_true (notF h5)
      refine wp_skip (then_normal (wp_seq ?_))
      refine at_regq [] { ts := [4], os := [] } [] gamOK hT h (by kernel_rfl) trivial fun a w h => then_normal (wp_ret ?_)
      exact at_return (true, ()) [] h (by kernel_rfl) trivial (congrArg (fun z => (z, ())) (show (true) = (Sh.eqB s43) x0 x1 from by exact ((Sh.eqB_iff s43).2 (Prod.ext h1 (Prod.ext h2 (Prod.ext h3 (Prod.ext (Sh.of_eqB h4) h5))))).symm))

def S_laws_eqRecoderS : Sum := { fid := 23, dom := [s26, s26], cod := [(.bool 4)], dp := true, fz := false, pre := fun x => True, g := fun x => (((Sh.eqB s26) x.1 x.2.1), ()) }
def S_laws_eqRecoderS_tab : List (Nat × Sum) := [(41, S_laws_eqRecoder)]
theorem S_laws_eqRecoderS_ok : FnOK Try.prog 23 S_laws_eqRecoderS := by
 refine at_enter 27 (fun x => ⟨[(0, aF s43 x.1), (1, aF s43 x.2.1)], []⟩) Try.func23 rfl (by kernel_rfl) (fun x => rfl) ?_
 rintro w0 Z0 ⟨x0, x1, u⟩ a w
 revert x0 x1
 intro (x0 : (List T43)) (x1 : (List T43)) hpre hlens h
 have hl1 : List.length x0 ≤ 9223372036854775807 := hlens.1.1
 have hl2 : List.length x1 ≤ 9223372036854775807 := hlens.2.1.1
 have hT : TabOK Try.prog S_laws_eqRecoderS_tab := (.cons S_laws_eqRecoder_ok .nil)
 refine wp_seq ?_
 refine at_regq [] { ts := [0, 1, 4], os := [] } [] gamOK hT h (by kernel_rfl) trivial fun a w h => then_normal (wp_seq (wp_seq ?_))
 refine at_regq [] { ts := [0, 1, 4, 10], os := [] } [] gamOK hT h (by kernel_rfl) trivial fun a w h => then_normal ?_
 refine at_test (!decide (((List.length x0 : Nat) : Int) = ((List.length x1 : Nat) : Int))) h (by kernel_rfl) (fun h1 => ?_) (fun h1 => ?_)
 ·replace h1 : ¬ (((List.length x0 : Nat) : Int) = ((List.length x1 : Nat) : Int)) := of_decide_eq_false (notT h1)
  refine wp_seq ?_
  refine at_regq [] { ts := [0, 1, 4], os := [] } [] gamOK hT h (by kernel_rfl) trivial fun a w h => then_normal (wp_ret (then_ret ?_))
  exact at_return (false, ()) [] h (by kernel_rfl) trivial (congrArg (fun z => (z, ())) (show (false) = (Sh.eqB s26) x0 x1 from by exact (Sh.eqB_ne (fun e => h1 (by rw [e]))).symm))
 ·replace h1 : ((List.length x0 : Nat) : Int) = ((List.length x1 : Nat) : Int) := of_decide_eq_true (notF h1)
  refine wp_skip (then_normal (wp_seq (wp_seq ?_)))
  refine at_regq [] { ts := [0, 1, 4, 5], os := [] } [] gamOK hT h (by kernel_rfl) trivial fun a w h => then_normal (wp_block ?_)
  replace h := at_out (σ' := ⟨[(0, aF s43 x0), (1, aF s43 x1), (4, aB false), (5, aI 0)], []⟩) { ts := [0, 1, 4, 5], os := [] } h (by kernel_rfl)
  refine at_loop (fun i : Nat => (⟨[(0, aF s43 x0), (1, aF s43 x1), (4, aB false), (5, aI ((i : Nat) : Int))], []⟩ : St)) (fun i => (i ≤ List.length x0 ∧ x0.take i = x1.take i)) (fun i => List.length x0 - i) (0) h (st_congr1 (fun (d0 : Int) => (⟨[(0, aF s43 x0), (1, aF s43 x1), (4, aB false), (5, aI d0)], []⟩ : St)) (show (0 : Int) = (((0) : Nat) : Int) from by first | with_reducible rfl | (rfl) | rfl)) (by exact ⟨Nat.zero_le _, rfl⟩) ?_
  intro i a w hok0 h
  refine wp_seq (wp_seq ?_)
  refine at_regq [] { ts := [0, 1, 4, 5, 14], os := [] } [] gamOK hT h (by kernel_rfl) trivial fun a w h => then_normal ?_
  refine at_test (decide (((i : Nat) : Int) < ((List.length x0 : Nat) : Int))) h (by kernel_rfl) (fun h2 => ?_) (fun h2 => ?_)
  ·replace h2 : ((i : Nat) : Int) < ((List.length x0 : Nat) : Int) := of_decide_eq_true h2
   refine wp_skip (then_normal (wp_seq (wp_block (wp_seq ?_))))
   refine at_anyq [{}, {}, {}, {}, {}, {}, {}, {}, {}, {}] { ts := [0, 1, 4, 5, 26], os := [] } [(0 : Int) ≤ ((i : Nat) : Int) ∧ ((i : Nat) : Int) < ((List.length x0 : Nat) : Int), (0 : Int) ≤ ((i : Nat) : Int) ∧ ((i : Nat) : Int) < ((List.length x1 : Nat) : Int), True] gamOK hT mixed h (by kernel_rfl) ⟨(by refine ⟨?_, ?_⟩ <;> (first | omega | (simp only [lsA]; omega) | (simp <;> omega))), (by refine ⟨?_, ?_⟩ <;> (first | omega | (simp only [lsA]; omega) | (simp <;> omega))), trivial, trivial⟩ fun a w h => then_normal ?_
   refine at_test (!((Sh.eqB s43) (x0.getD i (0, (0, (0, ([], 0))))) (x1.getD i (0, (0, (0, ([], 0))))))) h (by kernel_rfl) (fun h3 => ?_) (fun h3 => ?_)
   ·replace h3 : ((Sh.eqB s43) (x0.getD i (0, (0, (0, ([], 0))))) (x1.getD i (0, (0, (0, ([], 0)))))) = false := notT h3
    refine wp_seq ?_
    refine at_regq [] { ts := [0, 1, 4, 5], os := [] } [] gamOK hT h (by kernel_rfl) trivial fun a w h => then_normal (wp_ret (in_ret (then_ret (then_ret (in_ret (then_ret ?_))))))
    exact at_return (false, ()) [] h (by kernel_rfl) trivial (congrArg (fun z => (z, ())) (show (false) = (Sh.eqB s26) x0 x1 from by exact (Sh.eqB_ne (s := s26) (fun e => Sh.of_eqB_ne h3 (by rw [e]))).symm))
   ·replace h3 : ((Sh.eqB s43) (x0.getD i (0, (0, (0, ([], 0))))) (x1.getD i (0, (0, (0, ([], 0)))))) = true := notF h3
    refine wp_skip (in_normal (then_normal ?_))
    refine at_regq [{}, { nw := true }] { ts := [0, 1, 4, 5], os := [] } [I64 (((i : Nat) : Int) + 1)] gamOK hT h (by kernel_rfl) ⟨⟨by first | omega | (simp only [lsA]; omega) | (simp <;> omega), by first | omega | (simp only [lsA]; omega) | (simp <;> omega)⟩, trivial⟩ fun a w h => ?_
    replace h := at_out (σ' := ⟨[(0, aF s43 x0), (1, aF s43 x1), (4, aB false), (5, aI (((i : Nat) : Int) + 1))], []⟩) { ts := [0, 1, 4, 5], os := [] } h (by kernel_rfl)
    exact ⟨i + 1, at_eq h (st_congr1 (fun (d0 : Int) => (⟨[(0, aF s43 x0), (1, aF s43 x1), (4, aB false), (5, aI d0)], []⟩ : St)) (show (((i : Nat) : Int) + 1 : Int) = (((i + 1) : Nat) : Int) from by first | with_reducible rfl | (omega) | rfl)), (by exact ⟨by omega, eqTo_step (z := (0, (0, (0, ([], 0))))) (by omega) (by omega) hok0.2 (Sh.of_eqB h3)⟩), (by omega)⟩
  ·replace h2 : ¬ (((i : Nat) : Int) < ((List.length x0 : Nat) : Int)) := of_decide_eq_false h2
   refine wp_exit (then_exit (then_exit (in_hit (then_normal (wp_seq ?_)))))
   refine at_regq [] { ts := [4], os := [] } [] gamOK hT h (by kernel_rfl) trivial fun a w h => then_normal (wp_ret ?_)
   exact at_return (true, ()) [] h (by kernel_rfl) trivial (congrArg (fun z => (z, ())) (show (true) = (Sh.eqB s26) x0 x1 from by (have e := hok0.2; rw [take_all (by omega), take_all (by omega)] at e; exact ((Sh.eqB_iff s26).2 e).symm)))

def S_laws_eqSendWindow : Sum := { fid := 22, dom := [s25, s25], cod := [(.bool 4)], dp := true, fz := false, pre := fun x => True, g := fun x => (((Sh.eqB s25) x.1 x.2.1), ()) }
def S_laws_eqSendWindow_tab : List (Nat × Sum) := []
theorem S_laws_eqSendWindow_ok : FnOK Try.prog 22 S_laws_eqSendWindow := by
 refine at_enter 25 (fun x => ⟨[(0, aG [cI x.1.1, cI x.1.2.1, cI x.1.2.2.1, cI x.1.2.2.2]), (1, aG [cI x.2.1.1, cI x.2.1.2.1, cI x.2.1.2.2.1, cI x.2.1.2.2.2])], []⟩) Try.func22 rfl (by kernel_rfl) (fun x => rfl) ?_
 rintro w0 Z0 ⟨x0, x1, u⟩ a w
 revert x0 x1
 intro (x0 : T25) (x1 : T25) hpre hlens h
 have hT : TabOK Try.prog S_laws_eqSendWindow_tab := .nil
 refine wp_seq ?_
 refine at_regq [{ ids := [1] }, { ids := [2] }] { ts := [2, 3, 4], os := [1, 2] } [] gamOK hT h (by kernel_rfl) trivial fun a w h => then_normal (wp_seq (wp_seq ?_))
 refine at_regq [] { ts := [2, 3, 4, 9], os := [1, 2] } [] gamOK hT h (by kernel_rfl) trivial fun a w h => then_normal ?_
 refine at_test (!decide (x0.1 = x1.1)) h (by kernel_rfl) (fun h1 => ?_) (fun h1 => ?_)
 ·replace h1 : ¬ (x0.1 = x1.1) := of_decide_eq_false (notT h1)
  refine wp_seq ?_
  refine at_regq [] { ts := [2, 3, 4], os := [1, 2] } [] gamOK hT h (by kernel_rfl) trivial fun a w h => then_normal (wp_ret (then_ret ?_))
  exact at_return (false, ()) [] h (by kernel_rfl) trivial (congrArg (fun z => (z, ())) (show (false) = (Sh.eqB s25) x0 x1 from by exact (Sh.eqB_ne (s := s25) (fun e => h1 (congrArg (fun (y : T25) => y.1) e))).symm))
 ·replace h1 : x0.1 = x1.1 := of_decide_eq_true (notF h1)
  refine wp_skip (then_normal (wp_seq (wp_seq ?_)))
  refine at_regq [] { ts := [2, 3, 4, 14], os := [1, 2] } [] gamOK hT h (by kernel_rfl) trivial fun a w h => then_normal ?_
  refine at_test (!decide (x0.2.1 = x1.2.1)) h (by kernel_rfl) (fun h2 => ?_) (fun h2 => ?_)
  ·replace h2 : ¬ (x0.2.1 = x1.2.1) := of_decide_eq_false (notT h2)
   refine wp_seq ?_
   refine at_regq [] { ts := [2, 3, 4], os := [1, 2] } [] gamOK hT h (by kernel_rfl) trivial fun a w h => then_normal (wp_ret (then_ret ?_))
   exact at_return (false, ()) [] h (by kernel_rfl) trivial (congrArg (fun z => (z, ())) (show (false) = (Sh.eqB s25) x0 x1 from by exact (Sh.eqB_ne (s := s25) (fun e => h2 (congrArg (fun (y : T25) => y.2.1) e))).symm))
  ·replace h2 : x0.2.1 = x1.2.1 := of_decide_eq_true (notF h2)
   refine wp_skip (then_normal (wp_seq (wp_seq ?_)))
   refine at_regq [] { ts := [2, 3, 4, 19], os := [1, 2] } [] gamOK hT h (by kernel_rfl) trivial fun a w h => then_normal ?_
   refine at_test (!decide (x0.2.2.1 = x1.2.2.1)) h (by kernel_rfl) (fun h3 => ?_) (fun h3 => ?_)
   ·replace h3 : ¬ (x0.2.2.1 = x1.2.2.1) := of_decide_eq_false (notT h3)
    refine wp_seq ?_
    refine at_regq [] { ts := [2, 3, 4], os := [1, 2] } [] gamOK hT h (by kernel_rfl) trivial fun a w h => then_normal (wp_ret (then_ret ?_))
    exact at_return (false, ()) [] h (by kernel_rfl) trivial (congrArg (fun z => (z, ())) (show (false) = (Sh.eqB s25) x0 x1 from by exact (Sh.eqB_ne (s := s25) (fun e => h3 (congrArg (fun (y : T25) => y.2.2.1) e))).symm))
   ·replace h3 : x0.2.2.1 = x1.2.2.1 := of_decide_eq_true (notF h3)
    refine wp_skip (then_normal (wp_seq (wp_seq ?_)))
    refine at_regq [] { ts := [4, 24], os := [] } [] gamOK hT h (by kernel_rfl) trivial fun a w h => then_normal ?_
    refine at_test (!decide (x0.2.2.2 = x1.2.2.2)) h (by kernel_rfl) (fun h4 => ?_) (fun h4 => ?_)
    ·replace h4 : ¬ (x0.2.2.2 = x1.2.2.2) := of_decide_eq_false (notT h4)
     refine wp_seq ?_
     refine at_regq [] { ts := [4], os := [] } [] gamOK hT h (by kernel_rfl) trivial fun a w h => then_normal (wp_ret (then_ret ?_))
     exact at_return (false, ()) [] h (by kernel_rfl) trivial (congrArg (fun z => (z, ())) (show (false) = (Sh.eqB s25) x0 x1 from by exact (Sh.eqB_ne (s := s25) (fun e => h4 (congrArg (fun (y : T25) => y.2.2.2) e))).symm))
    ·replace h4 : x0.2.2.2 = x1.2.2.2 := of_decide_eq_true (notF h4)
     refine wp_skip (then_normal (wp_seq ?_))
     refine at_regq [] { ts := [4], os := [] } [] gamOK hT h (by kernel_rfl) trivial fun a w h => then_normal (wp_ret ?_)
     exact at_return (true, ()) [] h (by kernel_rfl) trivial (congrArg (fun z => (z, ())) (show (true) = (Sh.eqB s25) x0 x1 from by exact ((Sh.eqB_iff s25).2 (Prod.ext h1 (Prod.ext h2 (Prod.ext h3 h4)))).symm))

def S_laws_eqSource : Sum := { fid := 7, dom := [s31, s31], cod := [(.bool 4)], dp := true, fz := false, pre := fun x => True, g := fun x => (((Sh.eqB s31) x.1 x.2.1), ()) }
def S_laws_eqSource_tab : List (Nat × Sum) := [(21, S_laws_eqGenerationS), (22, S_laws_eqSendWindow), (23, S_laws_eqRecoderS), (24, S_laws_eqFeedbackTable)]
theorem S_laws_eqSource_ok : FnOK Try.prog 7 S_laws_eqSource := by
 refine at_enter 34 (fun x => ⟨[(0, aG [.ro s47 x.1.1, cI x.1.2.1.1, cI x.1.2.1.2.1, cI x.1.2.1.2.2.1, cI x.1.2.1.2.2.2, .ro s43 x.1.2.2.1, .ro s75 x.1.2.2.2.1, cI x.1.2.2.2.2]), (1, aG [.ro s47 x.2.1.1, cI x.2.1.2.1.1, cI x.2.1.2.1.2.1, cI x.2.1.2.1.2.2.1, cI x.2.1.2.1.2.2.2, .ro s43 x.2.1.2.2.1, .ro s75 x.2.1.2.2.2.1, cI x.2.1.2.2.2.2])], []⟩) Try.func7 rfl (by kernel_rfl) (fun x => rfl) ?_
 rintro w0 Z0 ⟨x0, x1, u⟩ a w
 revert x0 x1
 intro (x0 : T31) (x1 : T31) hpre hlens h
 have hl1 : List.length x0.1 ≤ 9223372036854775807 := hlens.1.1.1
 have hl2 : List.length x0.2.2.1 ≤ 9223372036854775807 := hlens.1.2.2.1.1
 have hl3 : List.length x0.2.2.2.1 ≤ 9223372036854775807 := hlens.1.2.2.2.1.1
 have hl4 : List.length x1.1 ≤ 9223372036854775807 := hlens.2.1.1.1
 have hl5 : List.length x1.2.2.1 ≤ 9223372036854775807 := hlens.2.1.2.2.1.1
 have hl6 : List.length x1.2.2.2.1 ≤ 9223372036854775807 := hlens.2.1.2.2.2.1.1
 have hT : TabOK Try.prog S_laws_eqSource_tab := (.cons S_laws_eqGenerationS_ok (.cons S_laws_eqSendWindow_ok (.cons S_laws_eqRecoderS_ok (.cons S_laws_eqFeedbackTable_ok .nil))))
 refine wp_seq ?_
 refine at_regq [{ ids := [1] }, { ids := [2] }] { ts := [2, 3, 4], os := [1, 2] } [] gamOK hT h (by kernel_rfl) trivial fun a w h => then_normal (wp_seq (wp_seq ?_))
 refine at_regq [] { ts := [2, 3, 4, 10], os := [1, 2] } [True] gamOK hT h (by kernel_rfl) ⟨trivial, trivial⟩ fun a w h => then_normal ?_
 refine at_test (!((Sh.eqB s23) x0.1 x1.1)) h (by kernel_rfl) (fun h1 => ?_) (fun h1 => ?_)
 ·replace h1 : ((Sh.eqB s23) x0.1 x1.1) = false := notT h1
  refine wp_seq ?_
  refine at_regq [] { ts := [2, 3, 4], os := [1, 2] } [] gamOK hT h (by kernel_rfl) trivial fun a w h => then_normal (wp_ret (then_ret ?_))
  exact at_return (false, ()) [] h (by kernel_rfl) trivial (congrArg (fun z => (z, ())) (show (false) = (Sh.eqB s31) x0 x1 from by exact (Sh.eqB_ne (s := s31) (fun e => Sh.of_eqB_ne h1 (congrArg (fun (y : T31) => y.1) e))).symm))
 ·replace h1 : ((Sh.eqB s23) x0.1 x1.1) = true := notF h1
  refine wp_skip (then_normal (wp_seq (wp_seq ?_)))
  refine at_regq [] { ts := [2, 3, 4, 16], os := [1, 2] } [True] gamOK hT h (by kernel_rfl) ⟨trivial, trivial⟩ fun a w h => then_normal ?_
  refine at_test (!((Sh.eqB s25) x0.2.1 x1.2.1)) h (by kernel_rfl) (fun h2 => ?_) (fun h2 => ?_)
  ·replace h2 : ((Sh.eqB s25) x0.2.1 x1.2.1) = false := notT h2
   refine wp_seq ?_
   refine at_regq [] { ts := [2, 3, 4], os := [1, 2] } [] gamOK hT h (by kernel_rfl) trivial fun a w h => then_normal (wp_ret (then_ret ?_))
   exact at_return (false, ()) [] h (by kernel_rfl) trivial (congrArg (fun z => (z, ())) (show (false) = (Sh.eqB s31) x0 x1 from by exact (Sh.eqB_ne (s := s31) (fun e => Sh.of_eqB_ne h2 (congrArg (fun (y : T31) => y.2.1) e))).symm))
  ·replace h2 : ((Sh.eqB s25) x0.2.1 x1.2.1) = true := notF h2
   refine wp_skip (then_normal (wp_seq (wp_seq ?_)))
   refine at_regq [] { ts := [2, 3, 4, 22], os := [1, 2] } [True] gamOK hT h (by kernel_rfl) ⟨trivial, trivial⟩ fun a w h => then_normal ?_
   refine at_test (!((Sh.eqB s26) x0.2.2.1 x1.2.2.1)) h (by kernel_rfl) (fun h3 => ?_) (fun h3 => ?_)
   ·replace h3 : ((Sh.eqB s26) x0.2.2.1 x1.2.2.1) = false := notT h3
    refine wp_seq ?_
    refine at_regq [] { ts := [2, 3, 4], os := [1, 2] } [] gamOK hT h (by kernel_rfl) trivial fun a w h => then_normal (wp_ret (then_ret ?_))
    exact at_return (false, ()) [] h (by kernel_rfl) trivial (congrArg (fun z => (z, ())) (show (false) = (Sh.eqB s31) x0 x1 from by exact (Sh.eqB_ne (s := s31) (fun e => Sh.of_eqB_ne h3 (congrArg (fun (y : T31) => y.2.2.1) e))).symm))
   ·replace h3 : ((Sh.eqB s26) x0.2.2.1 x1.2.2.1) = true := notF h3
    refine wp_skip (then_normal (wp_seq (wp_seq ?_)))
    refine at_regq [] { ts := [2, 3, 4, 28], os := [1, 2] } [True] gamOK hT h (by kernel_rfl) ⟨trivial, trivial⟩ fun a w h => then_normal ?_
    refine at_test (!((Sh.eqB s29) x0.2.2.2.1 x1.2.2.2.1)) h (by kernel_rfl) (fun h4 => ?_) (fun h4 => ?_)
    ·replace h4 : ((Sh.eqB s29) x0.2.2.2.1 x1.2.2.2.1) = false := notT h4
     refine wp_seq ?_
     refine at_regq [] { ts := [2, 3, 4], os := [1, 2] } [] gamOK hT h (by kernel_rfl) trivial fun a w h => then_normal (wp_ret (then_ret ?_))
     exact at_return (false, ()) [] h (by kernel_rfl) trivial (congrArg (fun z => (z, ())) (show (false) = (Sh.eqB s31) x0 x1 from by exact (Sh.eqB_ne (s := s31) (fun e => Sh.of_eqB_ne h4 (congrArg (fun (y : T31) => y.2.2.2.1) e))).symm))
    ·replace h4 : ((Sh.eqB s29) x0.2.2.2.1 x1.2.2.2.1) = true := notF h4
     refine wp_skip (then_normal (wp_seq (wp_seq ?_)))
     refine at_regq [] { ts := [4, 33], os := [] } [] gamOK hT h (by kernel_rfl) trivial fun a w h => then_normal ?_
     refine at_test (!decide (x0.2.2.2.2 = x1.2.2.2.2)) h (by kernel_rfl) (fun h5 => ?_) (fun h5 => ?_)
     ·replace h5 : ¬ (x0.2.2.2.2 = x1.2.2.2.2) := of_decide_eq_false (notT h5)
      refine wp_seq ?_
      refine at_regq [] { ts := [4], os := [] } [] gamOK hT h (by kernel_rfl) trivial fun a w h => then_normal (wp_ret (then_ret ?_))
      exact at_return (false, ()) [] h (by kernel_rfl) trivial (congrArg (fun z => (z, ())) (show (false) = (Sh.eqB s31) x0 x1 from by exact (Sh.eqB_ne (s := s31) (fun e => h5 (congrArg (fun (y : T31) => y.2.2.2.2) e))).symm))
     ·replace h5 : x0.2.2.2.2 = x1.2.2.2.2 := of_decide_eq_true (notF h5)
      refine wp_skip (then_normal (wp_seq ?_))
      refine at_regq [] { ts := [4], os := [] } [] gamOK hT h (by kernel_rfl) trivial fun a w h => then_normal (wp_ret ?_)
      exact at_return (true, ()) [] h (by kernel_rfl) trivial (congrArg (fun z => (z, ())) (show (true) = (Sh.eqB s31) x0 x1 from by exact ((Sh.eqB_iff s31).2 (Prod.ext (Sh.of_eqB h1) (Prod.ext (Sh.of_eqB h2) (Prod.ext (Sh.of_eqB h3) (Prod.ext (Sh.of_eqB h4) h5))))).symm))

def S_laws_heldIntS : Sum := { fid := 56, dom := [s61, (.int 3)], cod := [(.int 3)], dp := true, fz := false, pre := fun x => (pMk s61) x.1 x.2.1, g := fun x => (((heldD s61) x.1 x.2.1), ()) }
def S_laws_heldIntS_tab : List (Nat × Sum) := []
theorem S_laws_heldIntS_ok : FnOK Try.prog 56 S_laws_heldIntS := by
 refine at_enter 21 (fun x => ⟨[(0, aF (.int 3) x.1), (1, aI x.2.1)], []⟩) Try.func56 rfl (by kernel_rfl) (fun x => rfl) ?_
 rintro w0 Z0 ⟨x0, x1, u⟩ a w
 revert x0 x1
 intro (x0 : (List Int)) (x1 : Int) hpre hlens h
 replace hpre : (pMk s61) x0 x1 := hpre
 have hl1 : List.length x0 ≤ 9223372036854775807 := hlens.1.1
 have hT : TabOK Try.prog S_laws_heldIntS_tab := .nil
 have hp : 0 ≤ x1 ∧ x1 + ((Sh.ct s61 x0 : Nat) : Int) ≤ 4611686018427387904 := hpre
 have hct0 : Sh.ct s61 x0 = ctL (Sh.ct (.int 3)) x0 := rfl
 refine wp_seq ?_
 refine at_regq [] { ts := [0, 1, 4], os := [] } [] gamOK hT h (by kernel_rfl) trivial fun a w h => then_normal (wp_seq (wp_seq ?_))
 refine at_regq [] { ts := [0, 1, 4, 5], os := [] } [] gamOK hT h (by kernel_rfl) trivial fun a w h => then_normal (wp_block ?_)
 replace h := at_out (σ' := ⟨[(0, aF (.int 3) x0), (1, aI x1), (4, aI 0), (5, aI 0)], []⟩) { ts := [0, 1, 4, 5], os := [] } h (by kernel_rfl)
 refine at_loop (fun i : Nat => (⟨[(0, aF (.int 3) x0), (1, aI (x1 + ((ctL (Sh.ct (.int 3)) (List.take i x0) : Nat) : Int))), (4, aI 0), (5, aI ((i : Nat) : Int))], []⟩ : St)) (fun i => (i ≤ List.length x0 ∧ mkL (Sh.mk (.int 3)) (Sh.ct (.int 3)) x1 (x0.take i) = x0.take i)) (fun i => List.length x0 - i) (0) h (st_congr2 (fun (d0 : Int) (d1 : Int) => (⟨[(0, aF (.int 3) x0), (1, aI d0), (4, aI 0), (5, aI d1)], []⟩ : St)) (show (x1 : Int) = (x1 + ((ctL (Sh.ct (.int 3)) (List.take (0) x0) : Nat) : Int)) from by first | with_reducible rfl | (simp [ctL]) | rfl) (show (0 : Int) = (((0) : Nat) : Int) from by first | with_reducible rfl | (simp [ctL]) | rfl)) (by exact ⟨Nat.zero_le _, by simp [mkL]⟩) ?_
 intro i a w hok0 h
 refine wp_seq (wp_seq ?_)
 refine at_regq [] { ts := [0, 1, 4, 5, 9], os := [] } [] gamOK hT h (by kernel_rfl) trivial fun a w h => then_normal ?_
 refine at_test (decide (((i : Nat) : Int) < ((List.length x0 : Nat) : Int))) h (by kernel_rfl) (fun h1 => ?_) (fun h1 => ?_)
 ·replace h1 : ((i : Nat) : Int) < ((List.length x0 : Nat) : Int) := of_decide_eq_true h1
  have hat := ctL_at_le (c := Sh.ct (.int 3)) (xs := x0) (z := 0) (i := i) (by omega)
  have hsu := ctL_take_succ (c := Sh.ct (.int 3)) (xs := x0) (z := 0) (i := i) (by omega)
  have hci : Sh.ct (.int 3) (x0.getD i 0) = 1 := rfl
  refine wp_skip (then_normal (wp_seq (wp_block (wp_seq (wp_seq ?_)))))
  refine at_regq [] { ts := [0, 1, 4, 5, 17], os := [] } [(0 : Int) ≤ ((i : Nat) : Int) ∧ ((i : Nat) : Int) < ((List.length x0 : Nat) : Int)] gamOK hT h (by kernel_rfl) ⟨(by refine ⟨?_, ?_⟩ <;> (first | omega | (simp only [lsA]; omega) | (simp <;> omega))), trivial⟩ fun a w h => then_normal ?_
  refine at_test (!decide ((x0.getD i 0) = (x1 + ((ctL (Sh.ct (.int 3)) (List.take i x0) : Nat) : Int)))) h (by kernel_rfl) (fun h2 => ?_) (fun h2 => ?_)
  ·replace h2 : ¬ ((x0.getD i 0) = (x1 + ((ctL (Sh.ct (.int 3)) (List.take i x0) : Nat) : Int))) := of_decide_eq_false (notT h2)
   refine wp_seq ?_
   refine at_regq [] { ts := [0, 1, 4, 5], os := [] } [] gamOK hT h (by kernel_rfl) trivial fun a w h => then_normal (wp_ret (then_ret (in_ret (then_ret (then_ret (in_ret (then_ret ?_)))))))
   exact at_return ((-1), ()) [] h (by kernel_rfl) trivial (congrArg (fun z => (z, ())) (show ((-1)) = (heldD s61) x0 x1 from by refine (heldD_no (s := s61) (fun e => ?_)).symm; have e2 : (x1 + ((ctL (Sh.ct (.int 3)) (List.take i x0) : Nat) : Int)) = (x0.getD i 0) := congrArg (fun (y : Int) => y) (mkL_get (z := 0) (i := i) e (by omega)); omega))
  ·replace h2 : (x0.getD i 0) = (x1 + ((ctL (Sh.ct (.int 3)) (List.take i x0) : Nat) : Int)) := of_decide_eq_true (notF h2)
   refine wp_skip (then_normal ?_)
   refine at_regq [{}, { nw := true }] { ts := [0, 1, 4, 5], os := [] } [I64 ((x1 + ((ctL (Sh.ct (.int 3)) (List.take i x0) : Nat) : Int)) + 1)] gamOK hT h (by kernel_rfl) ⟨⟨by first | omega | (simp only [lsA]; omega) | (simp <;> omega), by first | omega | (simp only [lsA]; omega) | (simp <;> omega)⟩, trivial⟩ fun a w h => in_normal (then_normal ?_)
   refine at_regq [{}, { nw := true }] { ts := [0, 1, 4, 5], os := [] } [I64 (((i : Nat) : Int) + 1)] gamOK hT h (by kernel_rfl) ⟨⟨by first | omega | (simp only [lsA]; omega) | (simp <;> omega), by first | omega | (simp only [lsA]; omega) | (simp <;> omega)⟩, trivial⟩ fun a w h => ?_
   replace h := at_out (σ' := ⟨[(0, aF (.int 3) x0), (1, aI ((x1 + ((ctL (Sh.ct (.int 3)) (List.take i x0) : Nat) : Int)) + 1)), (4, aI 0), (5, aI (((i : Nat) : Int) + 1))], []⟩) { ts := [0, 1, 4, 5], os := [] } h (by kernel_rfl)
   exact ⟨i + 1, at_eq h (st_congr2 (fun (d0 : Int) (d1 : Int) => (⟨[(0, aF (.int 3) x0), (1, aI d0), (4, aI 0), (5, aI d1)], []⟩ : St)) (show ((x1 + ((ctL (Sh.ct (.int 3)) (List.take i x0) : Nat) : Int)) + 1 : Int) = (x1 + ((ctL (Sh.ct (.int 3)) (List.take (i + 1) x0) : Nat) : Int)) from by first | with_reducible rfl | (omega) | rfl) (show (((i : Nat) : Int) + 1 : Int) = (((i + 1) : Nat) : Int) from by first | with_reducible rfl | (omega) | rfl)), (by exact ⟨by omega, mkL_step (z := 0) (by omega) hok0.2 (by show ((x1 + ((ctL (Sh.ct (.int 3)) (List.take i x0) : Nat) : Int)) : Int) = (x0.getD i 0); omega)⟩), (by omega)⟩
 ·replace h1 : ¬ (((i : Nat) : Int) < ((List.length x0 : Nat) : Int)) := of_decide_eq_false h1
  refine wp_exit (then_exit (then_exit (in_hit (then_normal (wp_seq ?_)))))
  refine at_regq [] { ts := [4], os := [] } [] gamOK hT h (by kernel_rfl) trivial fun a w h => then_normal (wp_ret ?_)
  exact at_return ((x1 + ((ctL (Sh.ct (.int 3)) (List.take i x0) : Nat) : Int)), ()) [] h (by kernel_rfl) trivial (congrArg (fun z => (z, ())) (show ((x1 + ((ctL (Sh.ct (.int 3)) (List.take i x0) : Nat) : Int))) = (heldD s61) x0 x1 from by have e := hok0.2; rw [take_all (by omega)] at e; rw [heldD_pos (s := s61) e, hct0, take_all (by omega)]))

def S_laws_heldCodedPacketS : Sum := { fid := 47, dom := [s41, (.int 3)], cod := [(.int 3)], dp := true, fz := false, pre := fun x => (pMk s41) x.1 x.2.1, g := fun x => (((heldD s41) x.1 x.2.1), ()) }
def S_laws_heldCodedPacketS_tab : List (Nat × Sum) := [(56, S_laws_heldIntS)]
theorem S_laws_heldCodedPacketS_ok : FnOK Try.prog 47 S_laws_heldCodedPacketS := by
 refine at_enter 40 (fun x => ⟨[(0, aF s78 x.1), (1, aI x.2.1)], []⟩) Try.func47 rfl (by kernel_rfl) (fun x => rfl) ?_
 rintro w0 Z0 ⟨x0, x1, u⟩ a w
 revert x0 x1
 intro (x0 : (List T78)) (x1 : Int) hpre hlens h
 replace hpre : (pMk s41) x0 x1 := hpre
 have hl1 : List.length x0 ≤ 9223372036854775807 := hlens.1.1
 have hT : TabOK Try.prog S_laws_heldCodedPacketS_tab := (.cons S_laws_heldIntS_ok .nil)
 have hp : 0 ≤ x1 ∧ x1 + ((Sh.ct s41 x0 : Nat) : Int) ≤ 4611686018427387904 := hpre
 have hct0 : Sh.ct s41 x0 = ctL (Sh.ct s78) x0 := rfl
 refine wp_seq ?_
 refine at_regq [] { ts := [0, 1, 4], os := [] } [] gamOK hT h (by kernel_rfl) trivial fun a w h => then_normal (wp_seq (wp_seq ?_))
 refine at_regq [] { ts := [0, 1, 4, 5], os := [] } [] gamOK hT h (by kernel_rfl) trivial fun a w h => then_normal (wp_block ?_)
 replace h := at_out (σ' := ⟨[(0, aF s78 x0), (1, aI x1), (4, aI 0), (5, aI 0)], []⟩) { ts := [0, 1, 4, 5], os := [] } h (by kernel_rfl)
 refine at_loop (fun i : Nat => (⟨[(0, aF s78 x0), (1, aI (x1 + ((ctL (Sh.ct s78) (List.take i x0) : Nat) : Int))), (4, aI 0), (5, aI ((i : Nat) : Int))], []⟩ : St)) (fun i => (i ≤ List.length x0 ∧ mkL (Sh.mk s78) (Sh.ct s78) x1 (x0.take i) = x0.take i)) (fun i => List.length x0 - i) (0) h (st_congr2 (fun (d0 : Int) (d1 : Int) => (⟨[(0, aF s78 x0), (1, aI d0), (4, aI 0), (5, aI d1)], []⟩ : St)) (show (x1 : Int) = (x1 + ((ctL (Sh.ct s78) (List.take (0) x0) : Nat) : Int)) from by first | with_reducible rfl | (simp [ctL]) | rfl) (show (0 : Int) = (((0) : Nat) : Int) from by first | with_reducible rfl | (simp [ctL]) | rfl)) (by exact ⟨Nat.zero_le _, by simp [mkL]⟩) ?_
 intro i a w hok0 h
 refine wp_seq (wp_seq ?_)
 refine at_regq [] { ts := [0, 1, 4, 5, 9], os := [] } [] gamOK hT h (by kernel_rfl) trivial fun a w h => then_normal ?_
 refine at_test (decide (((i : Nat) : Int) < ((List.length x0 : Nat) : Int))) h (by kernel_rfl) (fun h1 => ?_) (fun h1 => ?_)
 ·replace h1 : ((i : Nat) : Int) < ((List.length x0 : Nat) : Int) := of_decide_eq_true h1
  have hat := ctL_at_le (c := Sh.ct s78) (xs := x0) (z := (0, ([], []))) (i := i) (by omega)
  have hsu := ctL_take_succ (c := Sh.ct s78) (xs := x0) (z := (0, ([], []))) (i := i) (by omega)
  have hci : Sh.ct s78 (x0.getD i (0, ([], []))) = (1 + ((Sh.ct s61 (x0.getD i (0, ([], []))).2.1) + (Sh.ct s61 (x0.getD i (0, ([], []))).2.2))) := rfl
  refine wp_skip (then_normal (wp_seq (wp_block (wp_seq (wp_seq ?_)))))
  refine at_regq [] { ts := [0, 1, 4, 5, 18], os := [] } [(0 : Int) ≤ ((i : Nat) : Int) ∧ ((i : Nat) : Int) < ((List.length x0 : Nat) : Int)] gamOK hT h (by kernel_rfl) ⟨(by refine ⟨?_, ?_⟩ <;> (first | omega | (simp only [lsA]; omega) | (simp <;> omega))), trivial⟩ fun a w h => then_normal ?_
  refine at_test (!decide ((x0.getD i (0, ([], []))).1 = (x1 + ((ctL (Sh.ct s78) (List.take i x0) : Nat) : Int)))) h (by kernel_rfl) (fun h2 => ?_) (fun h2 => ?_)
  ·replace h2 : ¬ ((x0.getD i (0, ([], []))).1 = (x1 + ((ctL (Sh.ct s78) (List.take i x0) : Nat) : Int))) := of_decide_eq_false (notT h2)
   refine wp_seq ?_
   refine at_regq [] { ts := [0, 1, 4, 5], os := [] } [] gamOK hT h (by kernel_rfl) trivial fun a w h => then_normal (wp_ret (then_ret (in_ret (then_ret (then_ret (in_ret (then_ret ?_)))))))
   exact at_return ((-1), ()) [] h (by kernel_rfl) trivial (congrArg (fun z => (z, ())) (show ((-1)) = (heldD s41) x0 x1 from by refine (heldD_no (s := s41) (fun e => ?_)).symm; have e2 : (x1 + ((ctL (Sh.ct s78) (List.take i x0) : Nat) : Int)) = (x0.getD i (0, ([], []))).1 := congrArg (fun (y : T78) => y.1) (mkL_get (z := (0, ([], []))) (i := i) e (by omega)); omega))
  ·replace h2 : (x0.getD i (0, ([], []))).1 = (x1 + ((ctL (Sh.ct s78) (List.take i x0) : Nat) : Int)) := of_decide_eq_true (notF h2)
   refine wp_skip (then_normal (wp_seq ?_))
   refine at_regq [{}, { nw := true }] { ts := [0, 1, 4, 5], os := [] } [I64 ((x1 + ((ctL (Sh.ct s78) (List.take i x0) : Nat) : Int)) + 1)] gamOK hT h (by kernel_rfl) ⟨⟨by first | omega | (simp only [lsA]; omega) | (simp <;> omega), by first | omega | (simp only [lsA]; omega) | (simp <;> omega)⟩, trivial⟩ fun a w h => then_normal (wp_seq ?_)
   refine at_regq [] { ts := [0, 1, 4, 5], os := [] } [(0 : Int) ≤ ((i : Nat) : Int) ∧ ((i : Nat) : Int) < ((List.length x0 : Nat) : Int), (pMk s61) (x0.getD i (0, ([], []))).2.1 ((x1 + ((ctL (Sh.ct s78) (List.take i x0) : Nat) : Int)) + 1)] gamOK hT h (by kernel_rfl) ⟨(by refine ⟨?_, ?_⟩ <;> (first | omega | (simp only [lsA]; omega) | (simp <;> omega))), (by (first | (show (0 : Int) ≤ _ ∧ _ + ((Sh.ct _ _ : Nat) : Int) ≤ (4611686018427387904 : Int); constructor <;> omega) | (show (0 : Int) ≤ _ ∧ _ + ((Sh.ctT _ _ : Nat) : Int) ≤ (4611686018427387904 : Int); constructor <;> omega))), trivial⟩ fun a w h => then_normal (wp_seq (wp_seq ?_))
   refine at_regq [] { ts := [0, 1, 4, 5, 29], os := [] } [] gamOK hT h (by kernel_rfl) trivial fun a w h => then_normal ?_
   refine at_test (decide (((heldD s61) (x0.getD i (0, ([], []))).2.1 ((x1 + ((ctL (Sh.ct s78) (List.take i x0) : Nat) : Int)) + 1)) < 0)) h (by kernel_rfl) (fun h3 => ?_) (fun h3 => ?_)
   ·replace h3 : ((heldD s61) (x0.getD i (0, ([], []))).2.1 ((x1 + ((ctL (Sh.ct s78) (List.take i x0) : Nat) : Int)) + 1)) < 0 := of_decide_eq_true h3
    have hvh3 := heldD_neg (by omega) h3
    refine wp_seq ?_
    refine at_regq [] { ts := [0, 1, 4, 5], os := [] } [] gamOK hT h (by kernel_rfl) trivial fun a w h => then_normal (wp_ret (then_ret (in_ret (then_ret (then_ret (in_ret (then_ret ?_)))))))
    exact at_return ((-1), ()) [] h (by kernel_rfl) trivial (congrArg (fun z => (z, ())) (show ((-1)) = (heldD s41) x0 x1 from by refine (heldD_no (s := s41) (fun e => ?_)).symm; have e2 : Sh.mk s61 (x0.getD i (0, ([], []))).2.1 ((x1 + ((ctL (Sh.ct s78) (List.take i x0) : Nat) : Int)) + ((1 : Nat) : Int)) = (x0.getD i (0, ([], []))).2.1 := congrArg (fun (y : T78) => y.2.1) (mkL_get (z := (0, ([], []))) (i := i) e (by omega)); exact hvh3 ((congrArg (fun k => Sh.mk s61 (x0.getD i (0, ([], []))).2.1 k) (show (_ : Int) = (x1 + ((ctL (Sh.ct s78) (List.take i x0) : Nat) : Int)) + ((1 : Nat) : Int) from by first | rfl | omega)).trans e2)))
   ·replace h3 : ¬ (((heldD s61) (x0.getD i (0, ([], []))).2.1 ((x1 + ((ctL (Sh.ct s78) (List.take i x0) : Nat) : Int)) + 1)) < 0) := of_decide_eq_false h3
    have hvh3 := heldD_val h3
    refine wp_skip (then_normal (wp_seq ?_))
    refine at_regq [] { ts := [0, 1, 4, 5], os := [] } [(0 : Int) ≤ ((i : Nat) : Int) ∧ ((i : Nat) : Int) < ((List.length x0 : Nat) : Int), (pMk s61) (x0.getD i (0, ([], []))).2.2 ((heldD s61) (x0.getD i (0, ([], []))).2.1 ((x1 + ((ctL (Sh.ct s78) (List.take i x0) : Nat) : Int)) + 1))] gamOK hT h (by kernel_rfl) ⟨(by refine ⟨?_, ?_⟩ <;> (first | omega | (simp only [lsA]; omega) | (simp <;> omega))), (by (first | (show (0 : Int) ≤ _ ∧ _ + ((Sh.ct _ _ : Nat) : Int) ≤ (4611686018427387904 : Int); constructor <;> omega) | (show (0 : Int) ≤ _ ∧ _ + ((Sh.ctT _ _ : Nat) : Int) ≤ (4611686018427387904 : Int); constructor <;> omega))), trivial⟩ fun a w h => then_normal (wp_seq ?_)
    refine at_regq [] { ts := [0, 1, 4, 5, 38], os := [] } [] gamOK hT h (by kernel_rfl) trivial fun a w h => then_normal ?_
    refine at_test (decide (((heldD s61) (x0.getD i (0, ([], []))).2.2 ((heldD s61) (x0.getD i (0, ([], []))).2.1 ((x1 + ((ctL (Sh.ct s78) (List.take i x0) : Nat) : Int)) + 1))) < 0)) h (by kernel_rfl) (fun h4 => ?_) (fun h4 => ?_)
    ·replace h4 : ((heldD s61) (x0.getD i (0, ([], []))).2.2 ((heldD s61) (x0.getD i (0, ([], []))).2.1 ((x1 + ((ctL (Sh.ct s78) (List.take i x0) : Nat) : Int)) + 1))) < 0 := of_decide_eq_true h4
     have hvh4 := heldD_neg (by omega) h4
     refine wp_seq ?_
     refine at_regq [] { ts := [0, 1, 4, 5], os := [] } [] gamOK hT h (by kernel_rfl) trivial fun a w h => then_normal (wp_ret (in_ret (then_ret (then_ret (in_ret (then_ret ?_))))))
     exact at_return ((-1), ()) [] h (by kernel_rfl) trivial (congrArg (fun z => (z, ())) (show ((-1)) = (heldD s41) x0 x1 from by refine (heldD_no (s := s41) (fun e => ?_)).symm; have e2 : Sh.mk s61 (x0.getD i (0, ([], []))).2.2 ((x1 + ((ctL (Sh.ct s78) (List.take i x0) : Nat) : Int)) + ((1 : Nat) : Int) + (((Sh.ct s61 (x0.getD i (0, ([], []))).2.1) : Nat) : Int)) = (x0.getD i (0, ([], []))).2.2 := congrArg (fun (y : T78) => y.2.2) (mkL_get (z := (0, ([], []))) (i := i) e (by omega)); exact hvh4 ((congrArg (fun k => Sh.mk s61 (x0.getD i (0, ([], []))).2.2 k) (show (_ : Int) = (x1 + ((ctL (Sh.ct s78) (List.take i x0) : Nat) : Int)) + ((1 : Nat) : Int) + (((Sh.ct s61 (x0.getD i (0, ([], []))).2.1) : Nat) : Int) from by first | rfl | omega)).trans e2)))
    ·replace h4 : ¬ (((heldD s61) (x0.getD i (0, ([], []))).2.2 ((heldD s61) (x0.getD i (0, ([], []))).2.1 ((x1 + ((ctL (Sh.ct s78) (List.take i x0) : Nat) : Int)) + 1))) < 0) := of_decide_eq_false h4
     have hvh4 := heldD_val h4
     refine wp_skip (in_normal (then_normal ?_))
     refine at_regq [{}, { nw := true }] { ts := [0, 1, 4, 5], os := [] } [I64 (((i : Nat) : Int) + 1)] gamOK hT h (by kernel_rfl) ⟨⟨by first | omega | (simp only [lsA]; omega) | (simp <;> omega), by first | omega | (simp only [lsA]; omega) | (simp <;> omega)⟩, trivial⟩ fun a w h => ?_
     replace h := at_out (σ' := ⟨[(0, aF s78 x0), (1, aI ((heldD s61) (x0.getD i (0, ([], []))).2.2 ((heldD s61) (x0.getD i (0, ([], []))).2.1 ((x1 + ((ctL (Sh.ct s78) (List.take i x0) : Nat) : Int)) + 1)))), (4, aI 0), (5, aI (((i : Nat) : Int) + 1))], []⟩) { ts := [0, 1, 4, 5], os := [] } h (by kernel_rfl)
     exact ⟨i + 1, at_eq h (st_congr2 (fun (d0 : Int) (d1 : Int) => (⟨[(0, aF s78 x0), (1, aI d0), (4, aI 0), (5, aI d1)], []⟩ : St)) (show (((heldD s61) (x0.getD i (0, ([], []))).2.2 ((heldD s61) (x0.getD i (0, ([], []))).2.1 ((x1 + ((ctL (Sh.ct s78) (List.take i x0) : Nat) : Int)) + 1))) : Int) = (x1 + ((ctL (Sh.ct s78) (List.take (i + 1) x0) : Nat) : Int)) from by first | with_reducible rfl | (omega) | rfl) (show (((i : Nat) : Int) + 1 : Int) = (((i + 1) : Nat) : Int) from by first | with_reducible rfl | (omega) | rfl)), (by exact ⟨by omega, mkL_step (z := (0, ([], []))) (by omega) hok0.2 (Prod.ext (by show ((x1 + ((ctL (Sh.ct s78) (List.take i x0) : Nat) : Int)) : Int) = (x0.getD i (0, ([], []))).1; omega) (Prod.ext ((congrArg (fun k => Sh.mk s61 (x0.getD i (0, ([], []))).2.1 k) (show ((x1 + ((ctL (Sh.ct s78) (List.take i x0) : Nat) : Int)) + ((1 : Nat) : Int) : Int) = _ from by first | rfl | omega)).trans hvh3.1) ((congrArg (fun k => Sh.mk s61 (x0.getD i (0, ([], []))).2.2 k) (show ((x1 + ((ctL (Sh.ct s78) (List.take i x0) : Nat) : Int)) + ((1 : Nat) : Int) + (((Sh.ct s61 (x0.getD i (0, ([], []))).2.1) : Nat) : Int) : Int) = _ from by first | rfl | omega)).trans hvh4.1)))⟩), (by omega)⟩
 ·replace h1 : ¬ (((i : Nat) : Int) < ((List.length x0 : Nat) : Int)) := of_decide_eq_false h1
  refine wp_exit (then_exit (then_exit (in_hit (then_normal (wp_seq ?_)))))
  refine at_regq [] { ts := [4], os := [] } [] gamOK hT h (by kernel_rfl) trivial fun a w h => then_normal (wp_ret ?_)
  exact at_return ((x1 + ((ctL (Sh.ct s78) (List.take i x0) : Nat) : Int)), ()) [] h (by kernel_rfl) trivial (congrArg (fun z => (z, ())) (show ((x1 + ((ctL (Sh.ct s78) (List.take i x0) : Nat) : Int))) = (heldD s41) x0 x1 from by have e := hok0.2; rw [take_all (by omega)] at e; rw [heldD_pos (s := s41) e, hct0, take_all (by omega)]))

def S_laws_heldFeedbackS : Sum := { fid := 48, dom := [s27, (.int 3)], cod := [(.int 3)], dp := true, fz := false, pre := fun x => (pMk s27) x.1 x.2.1, g := fun x => (((heldD s27) x.1 x.2.1), ()) }
def S_laws_heldFeedbackS_tab : List (Nat × Sum) := []
theorem S_laws_heldFeedbackS_ok : FnOK Try.prog 48 S_laws_heldFeedbackS := by
 refine at_enter 40 (fun x => ⟨[(0, aF s75 x.1), (1, aI x.2.1)], []⟩) Try.func48 rfl (by kernel_rfl) (fun x => rfl) ?_
 rintro w0 Z0 ⟨x0, x1, u⟩ a w
 revert x0 x1
 intro (x0 : (List T75)) (x1 : Int) hpre hlens h
 replace hpre : (pMk s27) x0 x1 := hpre
 have hl1 : List.length x0 ≤ 9223372036854775807 := hlens.1.1
 have hT : TabOK Try.prog S_laws_heldFeedbackS_tab := .nil
 have hp : 0 ≤ x1 ∧ x1 + ((Sh.ct s27 x0 : Nat) : Int) ≤ 4611686018427387904 := hpre
 have hct0 : Sh.ct s27 x0 = ctL (Sh.ct s75) x0 := rfl
 refine wp_seq ?_
 refine at_regq [] { ts := [0, 1, 4], os := [] } [] gamOK hT h (by kernel_rfl) trivial fun a w h => then_normal (wp_seq (wp_seq ?_))
 refine at_regq [] { ts := [0, 1, 4, 5], os := [] } [] gamOK hT h (by kernel_rfl) trivial fun a w h => then_normal (wp_block ?_)
 replace h := at_out (σ' := ⟨[(0, aF s75 x0), (1, aI x1), (4, aI 0), (5, aI 0)], []⟩) { ts := [0, 1, 4, 5], os := [] } h (by kernel_rfl)
 refine at_loop (fun i : Nat => (⟨[(0, aF s75 x0), (1, aI (x1 + ((ctL (Sh.ct s75) (List.take i x0) : Nat) : Int))), (4, aI 0), (5, aI ((i : Nat) : Int))], []⟩ : St)) (fun i => (i ≤ List.length x0 ∧ mkL (Sh.mk s75) (Sh.ct s75) x1 (x0.take i) = x0.take i)) (fun i => List.length x0 - i) (0) h (st_congr2 (fun (d0 : Int) (d1 : Int) => (⟨[(0, aF s75 x0), (1, aI d0), (4, aI 0), (5, aI d1)], []⟩ : St)) (show (x1 : Int) = (x1 + ((ctL (Sh.ct s75) (List.take (0) x0) : Nat) : Int)) from by first | with_reducible rfl | (simp [ctL]) | rfl) (show (0 : Int) = (((0) : Nat) : Int) from by first | with_reducible rfl | (simp [ctL]) | rfl)) (by exact ⟨Nat.zero_le _, by simp [mkL]⟩) ?_
 intro i a w hok0 h
 refine wp_seq (wp_seq ?_)
 refine at_regq [] { ts := [0, 1, 4, 5, 9], os := [] } [] gamOK hT h (by kernel_rfl) trivial fun a w h => then_normal ?_
 refine at_test (decide (((i : Nat) : Int) < ((List.length x0 : Nat) : Int))) h (by kernel_rfl) (fun h1 => ?_) (fun h1 => ?_)
 ·replace h1 : ((i : Nat) : Int) < ((List.length x0 : Nat) : Int) := of_decide_eq_true h1
  have hat := ctL_at_le (c := Sh.ct s75) (xs := x0) (z := (0, (0, 0))) (i := i) (by omega)
  have hsu := ctL_take_succ (c := Sh.ct s75) (xs := x0) (z := (0, (0, 0))) (i := i) (by omega)
  have hci : Sh.ct s75 (x0.getD i (0, (0, 0))) = (1 + (1 + 1)) := rfl
  refine wp_skip (then_normal (wp_seq (wp_block (wp_seq (wp_seq ?_)))))
  refine at_regq [] { ts := [0, 1, 4, 5, 18], os := [] } [(0 : Int) ≤ ((i : Nat) : Int) ∧ ((i : Nat) : Int) < ((List.length x0 : Nat) : Int)] gamOK hT h (by kernel_rfl) ⟨(by refine ⟨?_, ?_⟩ <;> (first | omega | (simp only [lsA]; omega) | (simp <;> omega))), trivial⟩ fun a w h => then_normal ?_
  refine at_test (!decide ((x0.getD i (0, (0, 0))).1 = (x1 + ((ctL (Sh.ct s75) (List.take i x0) : Nat) : Int)))) h (by kernel_rfl) (fun h2 => ?_) (fun h2 => ?_)
  ·replace h2 : ¬ ((x0.getD i (0, (0, 0))).1 = (x1 + ((ctL (Sh.ct s75) (List.take i x0) : Nat) : Int))) := of_decide_eq_false (notT h2)
   refine wp_seq ?_
   refine at_regq [] { ts := [0, 1, 4, 5], os := [] } [] gamOK hT h (by kernel_rfl) trivial fun a w h => then_normal (wp_ret (then_ret (in_ret (then_ret (then_ret (in_ret (then_ret ?_)))))))
   exact at_return ((-1), ()) [] h (by kernel_rfl) trivial (congrArg (fun z => (z, ())) (show ((-1)) = (heldD s27) x0 x1 from by refine (heldD_no (s := s27) (fun e => ?_)).symm; have e2 : (x1 + ((ctL (Sh.ct s75) (List.take i x0) : Nat) : Int)) = (x0.getD i (0, (0, 0))).1 := congrArg (fun (y : T75) => y.1) (mkL_get (z := (0, (0, 0))) (i := i) e (by omega)); omega))
  ·replace h2 : (x0.getD i (0, (0, 0))).1 = (x1 + ((ctL (Sh.ct s75) (List.take i x0) : Nat) : Int)) := of_decide_eq_true (notF h2)
   refine wp_skip (then_normal (wp_seq ?_))
   refine at_regq [{}, { nw := true }] { ts := [0, 1, 4, 5], os := [] } [I64 ((x1 + ((ctL (Sh.ct s75) (List.take i x0) : Nat) : Int)) + 1)] gamOK hT h (by kernel_rfl) ⟨⟨by first | omega | (simp only [lsA]; omega) | (simp <;> omega), by first | omega | (simp only [lsA]; omega) | (simp <;> omega)⟩, trivial⟩ fun a w h => then_normal (wp_seq (wp_seq ?_))
   refine at_regq [] { ts := [0, 1, 4, 5, 27], os := [] } [(0 : Int) ≤ ((i : Nat) : Int) ∧ ((i : Nat) : Int) < ((List.length x0 : Nat) : Int)] gamOK hT h (by kernel_rfl) ⟨(by refine ⟨?_, ?_⟩ <;> (first | omega | (simp only [lsA]; omega) | (simp <;> omega))), trivial⟩ fun a w h => then_normal ?_
   refine at_test (!decide ((x0.getD i (0, (0, 0))).2.1 = (x1 + ((ctL (Sh.ct s75) (List.take i x0) : Nat) : Int)) + 1)) h (by kernel_rfl) (fun h3 => ?_) (fun h3 => ?_)
   ·replace h3 : ¬ ((x0.getD i (0, (0, 0))).2.1 = (x1 + ((ctL (Sh.ct s75) (List.take i x0) : Nat) : Int)) + 1) := of_decide_eq_false (notT h3)
    refine wp_seq ?_
    refine at_regq [] { ts := [0, 1, 4, 5], os := [] } [] gamOK hT h (by kernel_rfl) trivial fun a w h => then_normal (wp_ret (then_ret (in_ret (then_ret (then_ret (in_ret (then_ret ?_)))))))
    exact at_return ((-1), ()) [] h (by kernel_rfl) trivial (congrArg (fun z => (z, ())) (show ((-1)) = (heldD s27) x0 x1 from by refine (heldD_no (s := s27) (fun e => ?_)).symm; have e2 : (x1 + ((ctL (Sh.ct s75) (List.take i x0) : Nat) : Int)) + ((1 : Nat) : Int) = (x0.getD i (0, (0, 0))).2.1 := congrArg (fun (y : T75) => y.2.1) (mkL_get (z := (0, (0, 0))) (i := i) e (by omega)); omega))
   ·replace h3 : (x0.getD i (0, (0, 0))).2.1 = (x1 + ((ctL (Sh.ct s75) (List.take i x0) : Nat) : Int)) + 1 := of_decide_eq_true (notF h3)
    refine wp_skip (then_normal (wp_seq ?_))
    refine at_regq [{}, { nw := true }] { ts := [0, 1, 4, 5], os := [] } [I64 (((x1 + ((ctL (Sh.ct s75) (List.take i x0) : Nat) : Int)) + 1) + 1)] gamOK hT h (by kernel_rfl) ⟨⟨by first | omega | (simp only [lsA]; omega) | (simp <;> omega), by first | omega | (simp only [lsA]; omega) | (simp <;> omega)⟩, trivial⟩ fun a w h => then_normal (wp_seq (wp_seq ?_))
    refine at_regq [] { ts := [0, 1, 4, 5, 36], os := [] } [(0 : Int) ≤ ((i : Nat) : Int) ∧ ((i : Nat) : Int) < ((List.length x0 : Nat) : Int)] gamOK hT h (by kernel_rfl) ⟨(by refine ⟨?_, ?_⟩ <;> (first | omega | (simp only [lsA]; omega) | (simp <;> omega))), trivial⟩ fun a w h => then_normal ?_
    refine at_test (!decide ((x0.getD i (0, (0, 0))).2.2 = ((x1 + ((ctL (Sh.ct s75) (List.take i x0) : Nat) : Int)) + 1) + 1)) h (by kernel_rfl) (fun h4 => ?_) (fun h4 => ?_)
    ·replace h4 : ¬ ((x0.getD i (0, (0, 0))).2.2 = ((x1 + ((ctL (Sh.ct s75) (List.take i x0) : Nat) : Int)) + 1) + 1) := of_decide_eq_false (notT h4)
     refine wp_seq ?_
     refine at_regq [] { ts := [0, 1, 4, 5], os := [] } [] gamOK hT h (by kernel_rfl) trivial fun a w h => then_normal (wp_ret (then_ret (in_ret (then_ret (then_ret (in_ret (then_ret ?_)))))))
     exact at_return ((-1), ()) [] h (by kernel_rfl) trivial (congrArg (fun z => (z, ())) (show ((-1)) = (heldD s27) x0 x1 from by refine (heldD_no (s := s27) (fun e => ?_)).symm; have e2 : (x1 + ((ctL (Sh.ct s75) (List.take i x0) : Nat) : Int)) + ((1 : Nat) : Int) + ((1 : Nat) : Int) = (x0.getD i (0, (0, 0))).2.2 := congrArg (fun (y : T75) => y.2.2) (mkL_get (z := (0, (0, 0))) (i := i) e (by omega)); omega))
    ·replace h4 : (x0.getD i (0, (0, 0))).2.2 = ((x1 + ((ctL (Sh.ct s75) (List.take i x0) : Nat) : Int)) + 1) + 1 := of_decide_eq_true (notF h4)
     refine wp_skip (then_normal ?_)
     refine at_regq [{}, { nw := true }] { ts := [0, 1, 4, 5], os := [] } [I64 ((((x1 + ((ctL (Sh.ct s75) (List.take i x0) : Nat) : Int)) + 1) + 1) + 1)] gamOK hT h (by kernel_rfl) ⟨⟨by first | omega | (simp only [lsA]; omega) | (simp <;> omega), by first | omega | (simp only [lsA]; omega) | (simp <;> omega)⟩, trivial⟩ fun a w h => in_normal (then_normal ?_)
     refine at_regq [{}, { nw := true }] { ts := [0, 1, 4, 5], os := [] } [I64 (((i : Nat) : Int) + 1)] gamOK hT h (by kernel_rfl) ⟨⟨by first | omega | (simp only [lsA]; omega) | (simp <;> omega), by first | omega | (simp only [lsA]; omega) | (simp <;> omega)⟩, trivial⟩ fun a w h => ?_
     replace h := at_out (σ' := ⟨[(0, aF s75 x0), (1, aI ((((x1 + ((ctL (Sh.ct s75) (List.take i x0) : Nat) : Int)) + 1) + 1) + 1)), (4, aI 0), (5, aI (((i : Nat) : Int) + 1))], []⟩) { ts := [0, 1, 4, 5], os := [] } h (by kernel_rfl)
     exact ⟨i + 1, at_eq h (st_congr2 (fun (d0 : Int) (d1 : Int) => (⟨[(0, aF s75 x0), (1, aI d0), (4, aI 0), (5, aI d1)], []⟩ : St)) (show ((((x1 + ((ctL (Sh.ct s75) (List.take i x0) : Nat) : Int)) + 1) + 1) + 1 : Int) = (x1 + ((ctL (Sh.ct s75) (List.take (i + 1) x0) : Nat) : Int)) from by first | with_reducible rfl | (omega) | rfl) (show (((i : Nat) : Int) + 1 : Int) = (((i + 1) : Nat) : Int) from by first | with_reducible rfl | (omega) | rfl)), (by exact ⟨by omega, mkL_step (z := (0, (0, 0))) (by omega) hok0.2 (Prod.ext (by show ((x1 + ((ctL (Sh.ct s75) (List.take i x0) : Nat) : Int)) : Int) = (x0.getD i (0, (0, 0))).1; omega) (Prod.ext (by show ((x1 + ((ctL (Sh.ct s75) (List.take i x0) : Nat) : Int)) + ((1 : Nat) : Int) : Int) = (x0.getD i (0, (0, 0))).2.1; omega) (by show ((x1 + ((ctL (Sh.ct s75) (List.take i x0) : Nat) : Int)) + ((1 : Nat) : Int) + ((1 : Nat) : Int) : Int) = (x0.getD i (0, (0, 0))).2.2; omega)))⟩), (by omega)⟩
 ·replace h1 : ¬ (((i : Nat) : Int) < ((List.length x0 : Nat) : Int)) := of_decide_eq_false h1
  refine wp_exit (then_exit (then_exit (in_hit (then_normal (wp_seq ?_)))))
  refine at_regq [] { ts := [4], os := [] } [] gamOK hT h (by kernel_rfl) trivial fun a w h => then_normal (wp_ret ?_)
  exact at_return ((x1 + ((ctL (Sh.ct s75) (List.take i x0) : Nat) : Int)), ()) [] h (by kernel_rfl) trivial (congrArg (fun z => (z, ())) (show ((x1 + ((ctL (Sh.ct s75) (List.take i x0) : Nat) : Int))) = (heldD s27) x0 x1 from by have e := hok0.2; rw [take_all (by omega)] at e; rw [heldD_pos (s := s27) e, hct0, take_all (by omega)]))

def S_laws_heldFeedbackTable : Sum := { fid := 30, dom := [s29, (.int 3)], cod := [(.int 3)], dp := true, fz := false, pre := fun x => (pMkT s29) x.1 x.2.1, g := fun x => (((heldDT s29) x.1 x.2.1), ()) }
def S_laws_heldFeedbackTable_tab : List (Nat × Sum) := [(48, S_laws_heldFeedbackS)]
theorem S_laws_heldFeedbackTable_ok : FnOK Try.prog 30 S_laws_heldFeedbackTable := by
 refine at_enter 12 (fun x => ⟨[(0, aG [.ro s75 x.1]), (1, aI x.2.1)], []⟩) Try.func30 rfl (by kernel_rfl) (fun x => rfl) ?_
 rintro w0 Z0 ⟨x0, x1, u⟩ a w
 revert x0 x1
 intro (x0 : (List T75)) (x1 : Int) hpre hlens h
 replace hpre : (pMkT s29) x0 x1 := hpre
 have hl1 : List.length x0 ≤ 9223372036854775807 := hlens.1.1
 have hT : TabOK Try.prog S_laws_heldFeedbackTable_tab := (.cons S_laws_heldFeedbackS_ok .nil)
 have hp : 0 ≤ x1 ∧ x1 + ((Sh.ctT s29 x0 : Nat) : Int) ≤ 4611686018427387904 := hpre
 have hct0 : Sh.ctT s29 x0 = (Sh.ct s27 x0) := rfl
 refine wp_seq ?_
 refine at_regq [{ ids := [1] }] { ts := [1, 2, 4], os := [1] } [] gamOK hT h (by kernel_rfl) trivial fun a w h => then_normal (wp_seq ?_)
 refine at_regq [] { ts := [1, 4], os := [] } [(pMk s27) x0 x1] gamOK hT h (by kernel_rfl) ⟨(by (first | (show (0 : Int) ≤ _ ∧ _ + ((Sh.ct _ _ : Nat) : Int) ≤ (4611686018427387904 : Int); constructor <;> omega) | (show (0 : Int) ≤ _ ∧ _ + ((Sh.ctT _ _ : Nat) : Int) ≤ (4611686018427387904 : Int); constructor <;> omega))), trivial⟩ fun a w h => then_normal (wp_seq (wp_seq ?_))
 refine at_regq [] { ts := [1, 4, 10], os := [] } [] gamOK hT h (by kernel_rfl) trivial fun a w h => then_normal ?_
 refine at_test (decide (((heldD s27) x0 x1) < 0)) h (by kernel_rfl) (fun h1 => ?_) (fun h1 => ?_)
 ·replace h1 : ((heldD s27) x0 x1) < 0 := of_decide_eq_true h1
  have hvh1 := heldD_neg (by omega) h1
  refine wp_seq ?_
  refine at_regq [] { ts := [1, 4], os := [] } [] gamOK hT h (by kernel_rfl) trivial fun a w h => then_normal (wp_ret (then_ret ?_))
  exact at_return ((-1), ()) [] h (by kernel_rfl) trivial (congrArg (fun z => (z, ())) (show ((-1)) = (heldDT s29) x0 x1 from by refine (heldDT_no (s := s29) (fun e => ?_)).symm; have e2 : Sh.mk s27 x0 (x1) = x0 := e; exact hvh1 ((congrArg (fun k => Sh.mk s27 x0 k) (show (_ : Int) = x1 from by first | rfl | omega)).trans e2)))
 ·replace h1 : ¬ (((heldD s27) x0 x1) < 0) := of_decide_eq_false h1
  have hvh1 := heldD_val h1
  refine wp_skip (then_normal (wp_seq ?_))
  refine at_regq [] { ts := [4], os := [] } [] gamOK hT h (by kernel_rfl) trivial fun a w h => then_normal (wp_ret ?_)
  exact at_return (((heldD s27) x0 x1), ()) [] h (by kernel_rfl) trivial (congrArg (fun z => (z, ())) (show (((heldD s27) x0 x1)) = (heldDT s29) x0 x1 from by rw [heldDT_pos (s := s29) (show Sh.mkT s29 x0 x1 = x0 from ((congrArg (fun k => Sh.mk s27 x0 k) (show (x1 : Int) = _ from by first | rfl | omega)).trans hvh1.1))]; omega))

def S_laws_heldIntSS : Sum := { fid := 46, dom := [s45, (.int 3)], cod := [(.int 3)], dp := true, fz := false, pre := fun x => (pMk s45) x.1 x.2.1, g := fun x => (((heldD s45) x.1 x.2.1), ()) }
def S_laws_heldIntSS_tab : List (Nat × Sum) := [(56, S_laws_heldIntS)]
theorem S_laws_heldIntSS_ok : FnOK Try.prog 46 S_laws_heldIntSS := by
 refine at_enter 21 (fun x => ⟨[(0, aF s61 x.1), (1, aI x.2.1)], []⟩) Try.func46 rfl (by kernel_rfl) (fun x => rfl) ?_
 rintro w0 Z0 ⟨x0, x1, u⟩ a w
 revert x0 x1
 intro (x0 : (List (List Int))) (x1 : Int) hpre hlens h
 replace hpre : (pMk s45) x0 x1 := hpre
 have hl1 : List.length x0 ≤ 9223372036854775807 := hlens.1.1
 have hT : TabOK Try.prog S_laws_heldIntSS_tab := (.cons S_laws_heldIntS_ok .nil)
 have hp : 0 ≤ x1 ∧ x1 + ((Sh.ct s45 x0 : Nat) : Int) ≤ 4611686018427387904 := hpre
 have hct0 : Sh.ct s45 x0 = ctL (Sh.ct s61) x0 := rfl
 refine wp_seq ?_
 refine at_regq [] { ts := [0, 1, 4], os := [] } [] gamOK hT h (by kernel_rfl) trivial fun a w h => then_normal (wp_seq (wp_seq ?_))
 refine at_regq [] { ts := [0, 1, 4, 5], os := [] } [] gamOK hT h (by kernel_rfl) trivial fun a w h => then_normal (wp_block ?_)
 replace h := at_out (σ' := ⟨[(0, aF s61 x0), (1, aI x1), (4, aI 0), (5, aI 0)], []⟩) { ts := [0, 1, 4, 5], os := [] } h (by kernel_rfl)
 refine at_loop (fun i : Nat => (⟨[(0, aF s61 x0), (1, aI (x1 + ((ctL (Sh.ct s61) (List.take i x0) : Nat) : Int))), (4, aI 0), (5, aI ((i : Nat) : Int))], []⟩ : St)) (fun i => (i ≤ List.length x0 ∧ mkL (Sh.mk s61) (Sh.ct s61) x1 (x0.take i) = x0.take i)) (fun i => List.length x0 - i) (0) h (st_congr2 (fun (d0 : Int) (d1 : Int) => (⟨[(0, aF s61 x0), (1, aI d0), (4, aI 0), (5, aI d1)], []⟩ : St)) (show (x1 : Int) = (x1 + ((ctL (Sh.ct s61) (List.take (0) x0) : Nat) : Int)) from by first | with_reducible rfl | (simp [ctL]) | rfl) (show (0 : Int) = (((0) : Nat) : Int) from by first | with_reducible rfl | (simp [ctL]) | rfl)) (by exact ⟨Nat.zero_le _, by simp [mkL]⟩) ?_
 intro i a w hok0 h
 refine wp_seq (wp_seq ?_)
 refine at_regq [] { ts := [0, 1, 4, 5, 9], os := [] } [] gamOK hT h (by kernel_rfl) trivial fun a w h => then_normal ?_
 refine at_test (decide (((i : Nat) : Int) < ((List.length x0 : Nat) : Int))) h (by kernel_rfl) (fun h1 => ?_) (fun h1 => ?_)
 ·replace h1 : ((i : Nat) : Int) < ((List.length x0 : Nat) : Int) := of_decide_eq_true h1
  have hat := ctL_at_le (c := Sh.ct s61) (xs := x0) (z := []) (i := i) (by omega)
  have hsu := ctL_take_succ (c := Sh.ct s61) (xs := x0) (z := []) (i := i) (by omega)
  have hci : Sh.ct s61 (x0.getD i []) = (Sh.ct s61 (x0.getD i [])) := rfl
  refine wp_skip (then_normal (wp_seq (wp_block (wp_seq ?_))))
  refine at_regq [] { ts := [0, 1, 4, 5], os := [] } [(0 : Int) ≤ ((i : Nat) : Int) ∧ ((i : Nat) : Int) < ((List.length x0 : Nat) : Int), (pMk s61) (x0.getD i []) (x1 + ((ctL (Sh.ct s61) (List.take i x0) : Nat) : Int))] gamOK hT h (by kernel_rfl) ⟨(by refine ⟨?_, ?_⟩ <;> (first | omega | (simp only [lsA]; omega) | (simp <;> omega))), (by (first | (show (0 : Int) ≤ _ ∧ _ + ((Sh.ct _ _ : Nat) : Int) ≤ (4611686018427387904 : Int); constructor <;> omega) | (show (0 : Int) ≤ _ ∧ _ + ((Sh.ctT _ _ : Nat) : Int) ≤ (4611686018427387904 : Int); constructor <;> omega))), trivial⟩ fun a w h => then_normal (wp_seq ?_)
  refine at_regq [] { ts := [0, 1, 4, 5, 19], os := [] } [] gamOK hT h (by kernel_rfl) trivial fun a w h => then_normal ?_
  refine at_test (decide (((heldD s61) (x0.getD i []) (x1 + ((ctL (Sh.ct s61) (List.take i x0) : Nat) : Int))) < 0)) h (by kernel_rfl) (fun h2 => ?_) (fun h2 => ?_)
  ·replace h2 : ((heldD s61) (x0.getD i []) (x1 + ((ctL (Sh.ct s61) (List.take i x0) : Nat) : Int))) < 0 := of_decide_eq_true h2
   have hvh2 := heldD_neg (by omega) h2
   refine wp_seq ?_
   refine at_regq [] { ts := [0, 1, 4, 5], os := [] } [] gamOK hT h (by kernel_rfl) trivial fun a w h => then_normal (wp_ret (in_ret (then_ret (then_ret (in_ret (then_ret ?_))))))
   exact at_return ((-1), ()) [] h (by kernel_rfl) trivial (congrArg (fun z => (z, ())) (show ((-1)) = (heldD s45) x0 x1 from by refine (heldD_no (s := s45) (fun e => ?_)).symm; have e2 : Sh.mk s61 (x0.getD i []) ((x1 + ((ctL (Sh.ct s61) (List.take i x0) : Nat) : Int))) = (x0.getD i []) := congrArg (fun (y : (List Int)) => y) (mkL_get (z := []) (i := i) e (by omega)); exact hvh2 ((congrArg (fun k => Sh.mk s61 (x0.getD i []) k) (show (_ : Int) = (x1 + ((ctL (Sh.ct s61) (List.take i x0) : Nat) : Int)) from by first | rfl | omega)).trans e2)))
  ·replace h2 : ¬ (((heldD s61) (x0.getD i []) (x1 + ((ctL (Sh.ct s61) (List.take i x0) : Nat) : Int))) < 0) := of_decide_eq_false h2
   have hvh2 := heldD_val h2
   refine wp_skip (in_normal (then_normal ?_))
   refine at_regq [{}, { nw := true }] { ts := [0, 1, 4, 5], os := [] } [I64 (((i : Nat) : Int) + 1)] gamOK hT h (by kernel_rfl) ⟨⟨by first | omega | (simp only [lsA]; omega) | (simp <;> omega), by first | omega | (simp only [lsA]; omega) | (simp <;> omega)⟩, trivial⟩ fun a w h => ?_
   replace h := at_out (σ' := ⟨[(0, aF s61 x0), (1, aI ((heldD s61) (x0.getD i []) (x1 + ((ctL (Sh.ct s61) (List.take i x0) : Nat) : Int)))), (4, aI 0), (5, aI (((i : Nat) : Int) + 1))], []⟩) { ts := [0, 1, 4, 5], os := [] } h (by kernel_rfl)
   exact ⟨i + 1, at_eq h (st_congr2 (fun (d0 : Int) (d1 : Int) => (⟨[(0, aF s61 x0), (1, aI d0), (4, aI 0), (5, aI d1)], []⟩ : St)) (show (((heldD s61) (x0.getD i []) (x1 + ((ctL (Sh.ct s61) (List.take i x0) : Nat) : Int))) : Int) = (x1 + ((ctL (Sh.ct s61) (List.take (i + 1) x0) : Nat) : Int)) from by first | with_reducible rfl | (omega) | rfl) (show (((i : Nat) : Int) + 1 : Int) = (((i + 1) : Nat) : Int) from by first | with_reducible rfl | (omega) | rfl)), (by exact ⟨by omega, mkL_step (z := []) (by omega) hok0.2 ((congrArg (fun k => Sh.mk s61 (x0.getD i []) k) (show ((x1 + ((ctL (Sh.ct s61) (List.take i x0) : Nat) : Int)) : Int) = _ from by first | rfl | omega)).trans hvh2.1)⟩), (by omega)⟩
 ·replace h1 : ¬ (((i : Nat) : Int) < ((List.length x0 : Nat) : Int)) := of_decide_eq_false h1
  refine wp_exit (then_exit (then_exit (in_hit (then_normal (wp_seq ?_)))))
  refine at_regq [] { ts := [4], os := [] } [] gamOK hT h (by kernel_rfl) trivial fun a w h => then_normal (wp_ret ?_)
  exact at_return ((x1 + ((ctL (Sh.ct s61) (List.take i x0) : Nat) : Int)), ()) [] h (by kernel_rfl) trivial (congrArg (fun z => (z, ())) (show ((x1 + ((ctL (Sh.ct s61) (List.take i x0) : Nat) : Int))) = (heldD s45) x0 x1 from by have e := hok0.2; rw [take_all (by omega)] at e; rw [heldD_pos (s := s45) e, hct0, take_all (by omega)]))

def S_laws_heldGenerationS : Sum := { fid := 28, dom := [s23, (.int 3)], cod := [(.int 3)], dp := true, fz := false, pre := fun x => (pMk s23) x.1 x.2.1, g := fun x => (((heldD s23) x.1 x.2.1), ()) }
def S_laws_heldGenerationS_tab : List (Nat × Sum) := [(46, S_laws_heldIntSS)]
theorem S_laws_heldGenerationS_ok : FnOK Try.prog 28 S_laws_heldGenerationS := by
 refine at_enter 31 (fun x => ⟨[(0, aF s47 x.1), (1, aI x.2.1)], []⟩) Try.func28 rfl (by kernel_rfl) (fun x => rfl) ?_
 rintro w0 Z0 ⟨x0, x1, u⟩ a w
 revert x0 x1
 intro (x0 : (List T47)) (x1 : Int) hpre hlens h
 replace hpre : (pMk s23) x0 x1 := hpre
 have hl1 : List.length x0 ≤ 9223372036854775807 := hlens.1.1
 have hT : TabOK Try.prog S_laws_heldGenerationS_tab := (.cons S_laws_heldIntSS_ok .nil)
 have hp : 0 ≤ x1 ∧ x1 + ((Sh.ct s23 x0 : Nat) : Int) ≤ 4611686018427387904 := hpre
 have hct0 : Sh.ct s23 x0 = ctL (Sh.ct s47) x0 := rfl
 refine wp_seq ?_
 refine at_regq [] { ts := [0, 1, 4], os := [] } [] gamOK hT h (by kernel_rfl) trivial fun a w h => then_normal (wp_seq (wp_seq ?_))
 refine at_regq [] { ts := [0, 1, 4, 5], os := [] } [] gamOK hT h (by kernel_rfl) trivial fun a w h => then_normal (wp_block ?_)
 replace h := at_out (σ' := ⟨[(0, aF s47 x0), (1, aI x1), (4, aI 0), (5, aI 0)], []⟩) { ts := [0, 1, 4, 5], os := [] } h (by kernel_rfl)
 refine at_loop (fun i : Nat => (⟨[(0, aF s47 x0), (1, aI (x1 + ((ctL (Sh.ct s47) (List.take i x0) : Nat) : Int))), (4, aI 0), (5, aI ((i : Nat) : Int))], []⟩ : St)) (fun i => (i ≤ List.length x0 ∧ mkL (Sh.mk s47) (Sh.ct s47) x1 (x0.take i) = x0.take i)) (fun i => List.length x0 - i) (0) h (st_congr2 (fun (d0 : Int) (d1 : Int) => (⟨[(0, aF s47 x0), (1, aI d0), (4, aI 0), (5, aI d1)], []⟩ : St)) (show (x1 : Int) = (x1 + ((ctL (Sh.ct s47) (List.take (0) x0) : Nat) : Int)) from by first | with_reducible rfl | (simp [ctL]) | rfl) (show (0 : Int) = (((0) : Nat) : Int) from by first | with_reducible rfl | (simp [ctL]) | rfl)) (by exact ⟨Nat.zero_le _, by simp [mkL]⟩) ?_
 intro i a w hok0 h
 refine wp_seq (wp_seq ?_)
 refine at_regq [] { ts := [0, 1, 4, 5, 9], os := [] } [] gamOK hT h (by kernel_rfl) trivial fun a w h => then_normal ?_
 refine at_test (decide (((i : Nat) : Int) < ((List.length x0 : Nat) : Int))) h (by kernel_rfl) (fun h1 => ?_) (fun h1 => ?_)
 ·replace h1 : ((i : Nat) : Int) < ((List.length x0 : Nat) : Int) := of_decide_eq_true h1
  have hat := ctL_at_le (c := Sh.ct s47) (xs := x0) (z := (0, [])) (i := i) (by omega)
  have hsu := ctL_take_succ (c := Sh.ct s47) (xs := x0) (z := (0, [])) (i := i) (by omega)
  have hci : Sh.ct s47 (x0.getD i (0, [])) = (1 + (Sh.ct s45 (x0.getD i (0, [])).2)) := rfl
  refine wp_skip (then_normal (wp_seq (wp_block (wp_seq (wp_seq ?_)))))
  refine at_regq [] { ts := [0, 1, 4, 5, 18], os := [] } [(0 : Int) ≤ ((i : Nat) : Int) ∧ ((i : Nat) : Int) < ((List.length x0 : Nat) : Int)] gamOK hT h (by kernel_rfl) ⟨(by refine ⟨?_, ?_⟩ <;> (first | omega | (simp only [lsA]; omega) | (simp <;> omega))), trivial⟩ fun a w h => then_normal ?_
  refine at_test (!decide ((x0.getD i (0, [])).1 = (x1 + ((ctL (Sh.ct s47) (List.take i x0) : Nat) : Int)))) h (by kernel_rfl) (fun h2 => ?_) (fun h2 => ?_)
  ·replace h2 : ¬ ((x0.getD i (0, [])).1 = (x1 + ((ctL (Sh.ct s47) (List.take i x0) : Nat) : Int))) := of_decide_eq_false (notT h2)
   refine wp_seq ?_
   refine at_regq [] { ts := [0, 1, 4, 5], os := [] } [] gamOK hT h (by kernel_rfl) trivial fun a w h => then_normal (wp_ret (then_ret (in_ret (then_ret (then_ret (in_ret (then_ret ?_)))))))
   exact at_return ((-1), ()) [] h (by kernel_rfl) trivial (congrArg (fun z => (z, ())) (show ((-1)) = (heldD s23) x0 x1 from by refine (heldD_no (s := s23) (fun e => ?_)).symm; have e2 : (x1 + ((ctL (Sh.ct s47) (List.take i x0) : Nat) : Int)) = (x0.getD i (0, [])).1 := congrArg (fun (y : T47) => y.1) (mkL_get (z := (0, [])) (i := i) e (by omega)); omega))
  ·replace h2 : (x0.getD i (0, [])).1 = (x1 + ((ctL (Sh.ct s47) (List.take i x0) : Nat) : Int)) := of_decide_eq_true (notF h2)
   refine wp_skip (then_normal (wp_seq ?_))
   refine at_regq [{}, { nw := true }] { ts := [0, 1, 4, 5], os := [] } [I64 ((x1 + ((ctL (Sh.ct s47) (List.take i x0) : Nat) : Int)) + 1)] gamOK hT h (by kernel_rfl) ⟨⟨by first | omega | (simp only [lsA]; omega) | (simp <;> omega), by first | omega | (simp only [lsA]; omega) | (simp <;> omega)⟩, trivial⟩ fun a w h => then_normal (wp_seq ?_)
   refine at_regq [] { ts := [0, 1, 4, 5], os := [] } [(0 : Int) ≤ ((i : Nat) : Int) ∧ ((i : Nat) : Int) < ((List.length x0 : Nat) : Int), (pMk s45) (x0.getD i (0, [])).2 ((x1 + ((ctL (Sh.ct s47) (List.take i x0) : Nat) : Int)) + 1)] gamOK hT h (by kernel_rfl) ⟨(by refine ⟨?_, ?_⟩ <;> (first | omega | (simp only [lsA]; omega) | (simp <;> omega))), (by (first | (show (0 : Int) ≤ _ ∧ _ + ((Sh.ct _ _ : Nat) : Int) ≤ (4611686018427387904 : Int); constructor <;> omega) | (show (0 : Int) ≤ _ ∧ _ + ((Sh.ctT _ _ : Nat) : Int) ≤ (4611686018427387904 : Int); constructor <;> omega))), trivial⟩ fun a w h => then_normal (wp_seq ?_)
   refine at_regq [] { ts := [0, 1, 4, 5, 29], os := [] } [] gamOK hT h (by kernel_rfl) trivial fun a w h => then_normal ?_
   refine at_test (decide (((heldD s45) (x0.getD i (0, [])).2 ((x1 + ((ctL (Sh.ct s47) (List.take i x0) : Nat) : Int)) + 1)) < 0)) h (by kernel_rfl) (fun h3 => ?_) (fun h3 => ?_)
   ·replace h3 : ((heldD s45) (x0.getD i (0, [])).2 ((x1 + ((ctL (Sh.ct s47) (List.take i x0) : Nat) : Int)) + 1)) < 0 := of_decide_eq_true h3
    have hvh3 := heldD_neg (by omega) h3
    refine wp_seq ?_
    refine at_regq [] { ts := [0, 1, 4, 5], os := [] } [] gamOK hT h (by kernel_rfl) trivial fun a w h => then_normal (wp_ret (in_ret (then_ret (then_ret (in_ret (then_ret ?_))))))
    exact at_return ((-1), ()) [] h (by kernel_rfl) trivial (congrArg (fun z => (z, ())) (show ((-1)) = (heldD s23) x0 x1 from by refine (heldD_no (s := s23) (fun e => ?_)).symm; have e2 : Sh.mk s45 (x0.getD i (0, [])).2 ((x1 + ((ctL (Sh.ct s47) (List.take i x0) : Nat) : Int)) + ((1 : Nat) : Int)) = (x0.getD i (0, [])).2 := congrArg (fun (y : T47) => y.2) (mkL_get (z := (0, [])) (i := i) e (by omega)); exact hvh3 ((congrArg (fun k => Sh.mk s45 (x0.getD i (0, [])).2 k) (show (_ : Int) = (x1 + ((ctL (Sh.ct s47) (List.take i x0) : Nat) : Int)) + ((1 : Nat) : Int) from by first | rfl | omega)).trans e2)))
   ·replace h3 : ¬ (((heldD s45) (x0.getD i (0, [])).2 ((x1 + ((ctL (Sh.ct s47) (List.take i x0) : Nat) : Int)) + 1)) < 0) := of_decide_eq_false h3
    have hvh3 := heldD_val h3
    refine wp_skip (in_normal (then_normal ?_))
    refine at_regq [{}, { nw := true }] { ts := [0, 1, 4, 5], os := [] } [I64 (((i : Nat) : Int) + 1)] gamOK hT h (by kernel_rfl) ⟨⟨by first | omega | (simp only [lsA]; omega) | (simp <;> omega), by first | omega | (simp only [lsA]; omega) | (simp <;> omega)⟩, trivial⟩ fun a w h => ?_
    replace h := at_out (σ' := ⟨[(0, aF s47 x0), (1, aI ((heldD s45) (x0.getD i (0, [])).2 ((x1 + ((ctL (Sh.ct s47) (List.take i x0) : Nat) : Int)) + 1))), (4, aI 0), (5, aI (((i : Nat) : Int) + 1))], []⟩) { ts := [0, 1, 4, 5], os := [] } h (by kernel_rfl)
    exact ⟨i + 1, at_eq h (st_congr2 (fun (d0 : Int) (d1 : Int) => (⟨[(0, aF s47 x0), (1, aI d0), (4, aI 0), (5, aI d1)], []⟩ : St)) (show (((heldD s45) (x0.getD i (0, [])).2 ((x1 + ((ctL (Sh.ct s47) (List.take i x0) : Nat) : Int)) + 1)) : Int) = (x1 + ((ctL (Sh.ct s47) (List.take (i + 1) x0) : Nat) : Int)) from by first | with_reducible rfl | (omega) | rfl) (show (((i : Nat) : Int) + 1 : Int) = (((i + 1) : Nat) : Int) from by first | with_reducible rfl | (omega) | rfl)), (by exact ⟨by omega, mkL_step (z := (0, [])) (by omega) hok0.2 (Prod.ext (by show ((x1 + ((ctL (Sh.ct s47) (List.take i x0) : Nat) : Int)) : Int) = (x0.getD i (0, [])).1; omega) ((congrArg (fun k => Sh.mk s45 (x0.getD i (0, [])).2 k) (show ((x1 + ((ctL (Sh.ct s47) (List.take i x0) : Nat) : Int)) + ((1 : Nat) : Int) : Int) = _ from by first | rfl | omega)).trans hvh3.1))⟩), (by omega)⟩
 ·replace h1 : ¬ (((i : Nat) : Int) < ((List.length x0 : Nat) : Int)) := of_decide_eq_false h1
  refine wp_exit (then_exit (then_exit (in_hit (then_normal (wp_seq ?_)))))
  refine at_regq [] { ts := [4], os := [] } [] gamOK hT h (by kernel_rfl) trivial fun a w h => then_normal (wp_ret ?_)
  exact at_return ((x1 + ((ctL (Sh.ct s47) (List.take i x0) : Nat) : Int)), ()) [] h (by kernel_rfl) trivial (congrArg (fun z => (z, ())) (show ((x1 + ((ctL (Sh.ct s47) (List.take i x0) : Nat) : Int))) = (heldD s23) x0 x1 from by have e := hok0.2; rw [take_all (by omega)] at e; rw [heldD_pos (s := s23) e, hct0, take_all (by omega)]))

def S_laws_heldRecoderS : Sum := { fid := 29, dom := [s26, (.int 3)], cod := [(.int 3)], dp := true, fz := false, pre := fun x => (pMk s26) x.1 x.2.1, g := fun x => (((heldD s26) x.1 x.2.1), ()) }
def S_laws_heldRecoderS_tab : List (Nat × Sum) := [(47, S_laws_heldCodedPacketS)]
theorem S_laws_heldRecoderS_ok : FnOK Try.prog 29 S_laws_heldRecoderS := by
 refine at_enter 58 (fun x => ⟨[(0, aF s43 x.1), (1, aI x.2.1)], []⟩) Try.func29 rfl (by kernel_rfl) (fun x => rfl) ?_
 rintro w0 Z0 ⟨x0, x1, u⟩ a w
 revert x0 x1
 intro (x0 : (List T43)) (x1 : Int) hpre hlens h
 replace hpre : (pMk s26) x0 x1 := hpre
 have hl1 : List.length x0 ≤ 9223372036854775807 := hlens.1.1
 have hT : TabOK Try.prog S_laws_heldRecoderS_tab := (.cons S_laws_heldCodedPacketS_ok .nil)
 have hp : 0 ≤ x1 ∧ x1 + ((Sh.ct s26 x0 : Nat) : Int) ≤ 4611686018427387904 := hpre
 have hct0 : Sh.ct s26 x0 = ctL (Sh.ct s43) x0 := rfl
 refine wp_seq ?_
 refine at_regq [] { ts := [0, 1, 4], os := [] } [] gamOK hT h (by kernel_rfl) trivial fun a w h => then_normal (wp_seq (wp_seq ?_))
 refine at_regq [] { ts := [0, 1, 4, 5], os := [] } [] gamOK hT h (by kernel_rfl) trivial fun a w h => then_normal (wp_block ?_)
 replace h := at_out (σ' := ⟨[(0, aF s43 x0), (1, aI x1), (4, aI 0), (5, aI 0)], []⟩) { ts := [0, 1, 4, 5], os := [] } h (by kernel_rfl)
 refine at_loop (fun i : Nat => (⟨[(0, aF s43 x0), (1, aI (x1 + ((ctL (Sh.ct s43) (List.take i x0) : Nat) : Int))), (4, aI 0), (5, aI ((i : Nat) : Int))], []⟩ : St)) (fun i => (i ≤ List.length x0 ∧ mkL (Sh.mk s43) (Sh.ct s43) x1 (x0.take i) = x0.take i)) (fun i => List.length x0 - i) (0) h (st_congr2 (fun (d0 : Int) (d1 : Int) => (⟨[(0, aF s43 x0), (1, aI d0), (4, aI 0), (5, aI d1)], []⟩ : St)) (show (x1 : Int) = (x1 + ((ctL (Sh.ct s43) (List.take (0) x0) : Nat) : Int)) from by first | with_reducible rfl | (simp [ctL]) | rfl) (show (0 : Int) = (((0) : Nat) : Int) from by first | with_reducible rfl | (simp [ctL]) | rfl)) (by exact ⟨Nat.zero_le _, by simp [mkL]⟩) ?_
 intro i a w hok0 h
 refine wp_seq (wp_seq ?_)
 refine at_regq [] { ts := [0, 1, 4, 5, 9], os := [] } [] gamOK hT h (by kernel_rfl) trivial fun a w h => then_normal ?_
 refine at_test (decide (((i : Nat) : Int) < ((List.length x0 : Nat) : Int))) h (by kernel_rfl) (fun h1 => ?_) (fun h1 => ?_)
 ·replace h1 : ((i : Nat) : Int) < ((List.length x0 : Nat) : Int) := of_decide_eq_true h1
  have hat := ctL_at_le (c := Sh.ct s43) (xs := x0) (z := (0, (0, (0, ([], 0))))) (i := i) (by omega)
  have hsu := ctL_take_succ (c := Sh.ct s43) (xs := x0) (z := (0, (0, (0, ([], 0))))) (i := i) (by omega)
  have hci : Sh.ct s43 (x0.getD i (0, (0, (0, ([], 0))))) = (1 + (1 + (1 + ((Sh.ct s41 (x0.getD i (0, (0, (0, ([], 0))))).2.2.2.1) + 1)))) := rfl
  refine wp_skip (then_normal (wp_seq (wp_block (wp_seq (wp_seq ?_)))))
  refine at_regq [] { ts := [0, 1, 4, 5, 18], os := [] } [(0 : Int) ≤ ((i : Nat) : Int) ∧ ((i : Nat) : Int) < ((List.length x0 : Nat) : Int)] gamOK hT h (by kernel_rfl) ⟨(by refine ⟨?_, ?_⟩ <;> (first | omega | (simp only [lsA]; omega) | (simp <;> omega))), trivial⟩ fun a w h => then_normal ?_
  refine at_test (!decide ((x0.getD i (0, (0, (0, ([], 0))))).1 = (x1 + ((ctL (Sh.ct s43) (List.take i x0) : Nat) : Int)))) h (by kernel_rfl) (fun h2 => ?_) (fun h2 => ?_)
  ·replace h2 : ¬ ((x0.getD i (0, (0, (0, ([], 0))))).1 = (x1 + ((ctL (Sh.ct s43) (List.take i x0) : Nat) : Int))) := of_decide_eq_false (notT h2)
   refine wp_seq ?_
   refine at_regq [] { ts := [0, 1, 4, 5], os := [] } [] gamOK hT h (by kernel_rfl) trivial fun a w h => then_normal (wp_ret (then_ret (in_ret (then_ret (then_ret (in_ret (then_ret ?_)))))))
   exact at_return ((-1), ()) [] h (by kernel_rfl) trivial (congrArg (fun z => (z, ())) (show ((-1)) = (heldD s26) x0 x1 from by refine (heldD_no (s := s26) (fun e => ?_)).symm; have e2 : (x1 + ((ctL (Sh.ct s43) (List.take i x0) : Nat) : Int)) = (x0.getD i (0, (0, (0, ([], 0))))).1 := congrArg (fun (y : T43) => y.1) (mkL_get (z := (0, (0, (0, ([], 0))))) (i := i) e (by omega)); omega))
  ·replace h2 : (x0.getD i (0, (0, (0, ([], 0))))).1 = (x1 + ((ctL (Sh.ct s43) (List.take i x0) : Nat) : Int)) := of_decide_eq_true (notF h2)
   refine wp_skip (then_normal (wp_seq ?_))
   refine at_regq [{}, { nw := true }] { ts := [0, 1, 4, 5], os := [] } [I64 ((x1 + ((ctL (Sh.ct s43) (List.take i x0) : Nat) : Int)) + 1)] gamOK hT h (by kernel_rfl) ⟨⟨by first | omega | (simp only [lsA]; omega) | (simp <;> omega), by first | omega | (simp only [lsA]; omega) | (simp <;> omega)⟩, trivial⟩ fun a w h => then_normal (wp_seq (wp_seq ?_))
   refine at_regq [] { ts := [0, 1, 4, 5, 27], os := [] } [(0 : Int) ≤ ((i : Nat) : Int) ∧ ((i : Nat) : Int) < ((List.length x0 : Nat) : Int)] gamOK hT h (by kernel_rfl) ⟨(by refine ⟨?_, ?_⟩ <;> (first | omega | (simp only [lsA]; omega) | (simp <;> omega))), trivial⟩ fun a w h => then_normal ?_
   refine at_test (!decide ((x0.getD i (0, (0, (0, ([], 0))))).2.1 = (x1 + ((ctL (Sh.ct s43) (List.take i x0) : Nat) : Int)) + 1)) h (by kernel_rfl) (fun h3 => ?_) (fun h3 => ?_)
   ·replace h3 : ¬ ((x0.getD i (0, (0, (0, ([], 0))))).2.1 = (x1 + ((ctL (Sh.ct s43) (List.take i x0) : Nat) : Int)) + 1) := of_decide_eq_false (notT h3)
    refine wp_seq ?_
    refine at_regq [] { ts := [0, 1, 4, 5], os := [] } [] gamOK hT h (by kernel_rfl) trivial fun a w h => then_normal (wp_ret (then_ret (in_ret (then_ret (then_ret (in_ret (then_ret ?_)))))))
    exact at_return ((-1), ()) [] h (by kernel_rfl) trivial (congrArg (fun z => (z, ())) (show ((-1)) = (heldD s26) x0 x1 from by refine (heldD_no (s := s26) (fun e => ?_)).symm; have e2 : (x1 + ((ctL (Sh.ct s43) (List.take i x0) : Nat) : Int)) + ((1 : Nat) : Int) = (x0.getD i (0, (0, (0, ([], 0))))).2.1 := congrArg (fun (y : T43) => y.2.1) (mkL_get (z := (0, (0, (0, ([], 0))))) (i := i) e (by omega)); omega))
   ·replace h3 : (x0.getD i (0, (0, (0, ([], 0))))).2.1 = (x1 + ((ctL (Sh.ct s43) (List.take i x0) : Nat) : Int)) + 1 := of_decide_eq_true (notF h3)
    refine wp_skip (then_normal (wp_seq ?_))
    refine at_regq [{}, { nw := true }] { ts := [0, 1, 4, 5], os := [] } [I64 (((x1 + ((ctL (Sh.ct s43) (List.take i x0) : Nat) : Int)) + 1) + 1)] gamOK hT h (by kernel_rfl) ⟨⟨by first | omega | (simp only [lsA]; omega) | (simp <;> omega), by first | omega | (simp only [lsA]; omega) | (simp <;> omega)⟩, trivial⟩ fun a w h => then_normal (wp_seq (wp_seq ?_))
    refine at_regq [] { ts := [0, 1, 4, 5, 36], os := [] } [(0 : Int) ≤ ((i : Nat) : Int) ∧ ((i : Nat) : Int) < ((List.length x0 : Nat) : Int)] gamOK hT h (by kernel_rfl) ⟨(by refine ⟨?_, ?_⟩ <;> (first | omega | (simp only [lsA]; omega) | (simp <;> omega))), trivial⟩ fun a w h => then_normal ?_
    refine at_test (!decide ((x0.getD i (0, (0, (0, ([], 0))))).2.2.1 = ((x1 + ((ctL (Sh.ct s43) (List.take i x0) : Nat) : Int)) + 1) + 1)) h (by kernel_rfl) (fun h4 => ?_) (fun h4 => ?_)
    ·replace h4 : ¬ ((x0.getD i (0, (0, (0, ([], 0))))).2.2.1 = ((x1 + ((ctL (Sh.ct s43) (List.take i x0) : Nat) : Int)) + 1) + 1) := of_decide_eq_false (notT h4)
     refine wp_seq ?_
     refine at_regq [] { ts := [0, 1, 4, 5], os := [] } [] gamOK hT h (by kernel_rfl) trivial fun a w h => then_normal (wp_ret (then_ret (in_ret (then_ret (then_ret (in_ret (then_ret ?_)))))))
     exact at_return ((-1), ()) [] h (by kernel_rfl) trivial (congrArg (fun z => (z, ())) (show ((-1)) = (heldD s26) x0 x1 from by refine (heldD_no (s := s26) (fun e => ?_)).symm; have e2 : (x1 + ((ctL (Sh.ct s43) (List.take i x0) : Nat) : Int)) + ((1 : Nat) : Int) + ((1 : Nat) : Int) = (x0.getD i (0, (0, (0, ([], 0))))).2.2.1 := congrArg (fun (y : T43) => y.2.2.1) (mkL_get (z := (0, (0, (0, ([], 0))))) (i := i) e (by omega)); omega))
    ·replace h4 : (x0.getD i (0, (0, (0, ([], 0))))).2.2.1 = ((x1 + ((ctL (Sh.ct s43) (List.take i x0) : Nat) : Int)) + 1) + 1 := of_decide_eq_true (notF h4)
     refine wp_skip (then_normal (wp_seq ?_))
     refine at_regq [{}, { nw := true }] { ts := [0, 1, 4, 5], os := [] } [I64 ((((x1 + ((ctL (Sh.ct s43) (List.take i x0) : Nat) : Int)) + 1) + 1) + 1)] gamOK hT h (by kernel_rfl) ⟨⟨by first | omega | (simp only [lsA]; omega) | (simp <;> omega), by first | omega | (simp only [lsA]; omega) | (simp <;> omega)⟩, trivial⟩ fun a w h => then_normal (wp_seq ?_)
     refine at_regq [] { ts := [0, 1, 4, 5], os := [] } [(0 : Int) ≤ ((i : Nat) : Int) ∧ ((i : Nat) : Int) < ((List.length x0 : Nat) : Int), (pMk s41) (x0.getD i (0, (0, (0, ([], 0))))).2.2.2.1 ((((x1 + ((ctL (Sh.ct s43) (List.take i x0) : Nat) : Int)) + 1) + 1) + 1)] gamOK hT h (by kernel_rfl) ⟨(by refine ⟨?_, ?_⟩ <;> (first | omega | (simp only [lsA]; omega) | (simp <;> omega))), (by (first | (show (0 : Int) ≤ _ ∧ _ + ((Sh.ct _ _ : Nat) : Int) ≤ (4611686018427387904 : Int); constructor <;> omega) | (show (0 : Int) ≤ _ ∧ _ + ((Sh.ctT _ _ : Nat) : Int) ≤ (4611686018427387904 : Int); constructor <;> omega))), trivial⟩ fun a w h => then_normal (wp_seq (wp_seq ?_))
     refine at_regq [] { ts := [0, 1, 4, 5, 47], os := [] } [] gamOK hT h (by kernel_rfl) trivial fun a w h => then_normal ?_
     refine at_test (decide (((heldD s41) (x0.getD i (0, (0, (0, ([], 0))))).2.2.2.1 ((((x1 + ((ctL (Sh.ct s43) (List.take i x0) : Nat) : Int)) + 1) + 1) + 1)) < 0)) h (by kernel_rfl) (fun h5 => ?_) (fun h5 => ?_)
     ·replace h5 : ((heldD s41) (x0.getD i (0, (0, (0, ([], 0))))).2.2.2.1 ((((x1 + ((ctL (Sh.ct s43) (List.take i x0) : Nat) : Int)) + 1) + 1) + 1)) < 0 := of_decide_eq_true h5
      have hvh5 := heldD_neg (by omega) h5
      refine wp_seq ?_
      refine at_regq [] { ts := [0, 1, 4, 5], os := [] } [] gamOK hT h (by kernel_rfl) trivial fun a w h => then_normal (wp_ret (then_ret (in_ret (then_ret (then_ret (in_ret (then_ret ?_)))))))
      exact at_return ((-1), ()) [] h (by kernel_rfl) trivial (congrArg (fun z => (z, ())) (show ((-1)) = (heldD s26) x0 x1 from by refine (heldD_no (s := s26) (fun e => ?_)).symm; have e2 : Sh.mk s41 (x0.getD i (0, (0, (0, ([], 0))))).2.2.2.1 ((x1 + ((ctL (Sh.ct s43) (List.take i x0) : Nat) : Int)) + ((1 : Nat) : Int) + ((1 : Nat) : Int) + ((1 : Nat) : Int)) = (x0.getD i (0, (0, (0, ([], 0))))).2.2.2.1 := congrArg (fun (y : T43) => y.2.2.2.1) (mkL_get (z := (0, (0, (0, ([], 0))))) (i := i) e (by omega)); exact hvh5 ((congrArg (fun k => Sh.mk s41 (x0.getD i (0, (0, (0, ([], 0))))).2.2.2.1 k) (show (_ : Int) = (x1 + ((ctL (Sh.ct s43) (List.take i x0) : Nat) : Int)) + ((1 : Nat) : Int) + ((1 : Nat) : Int) + ((1 : Nat) : Int) from by first | rfl | omega)).trans e2)))
     ·replace h5 : ¬ (((heldD s41) (x0.getD i (0, (0, (0, ([], 0))))).2.2.2.1 ((((x1 + ((ctL (Sh.ct s43) (List.take i x0) : Nat) : Int)) + 1) + 1) + 1)) < 0) := of_decide_eq_false h5
      have hvh5 := heldD_val h5
      refine wp_skip (then_normal (wp_seq (wp_seq ?_)))
      refine at_regq [] { ts := [0, 1, 4, 5, 54], os := [] } [(0 : Int) ≤ ((i : Nat) : Int) ∧ ((i : Nat) : Int) < ((List.length x0 : Nat) : Int)] gamOK hT h (by kernel_rfl) ⟨(by refine ⟨?_, ?_⟩ <;> (first | omega | (simp only [lsA]; omega) | (simp <;> omega))), trivial⟩ fun a w h => then_normal ?_
      refine at_test (!decide ((x0.getD i (0, (0, (0, ([], 0))))).2.2.2.2 = ((heldD s41) (x0.getD i (0, (0, (0, ([], 0))))).2.2.2.1 ((((x1 + ((ctL (Sh.ct s43) (List.take i x0) : Nat) : Int)) + 1) + 1) + 1)))) h (by kernel_rfl) (fun h6 => ?_) (fun h6 => ?_)
      ·replace h6 : ¬ ((x0.getD i (0, (0, (0, ([], 0))))).2.2.2.2 = ((heldD s41) (x0.getD i (0, (0, (0, ([], 0))))).2.2.2.1 ((((x1 + ((ctL (Sh.ct s43) (List.take i x0) : Nat) : Int)) + 1) + 1) + 1))) := of_decide_eq_false (notT h6)
       refine wp_seq ?_
       refine at_regq [] { ts := [0, 1, 4, 5], os := [] } [] gamOK hT h (by kernel_rfl) trivial fun a w h => then_normal (wp_ret (then_ret (in_ret (then_ret (then_ret (in_ret (then_ret ?_)))))))
       exact at_return ((-1), ()) [] h (by kernel_rfl) trivial (congrArg (fun z => (z, ())) (show ((-1)) = (heldD s26) x0 x1 from by refine (heldD_no (s := s26) (fun e => ?_)).symm; have e2 : (x1 + ((ctL (Sh.ct s43) (List.take i x0) : Nat) : Int)) + ((1 : Nat) : Int) + ((1 : Nat) : Int) + ((1 : Nat) : Int) + (((Sh.ct s41 (x0.getD i (0, (0, (0, ([], 0))))).2.2.2.1) : Nat) : Int) = (x0.getD i (0, (0, (0, ([], 0))))).2.2.2.2 := congrArg (fun (y : T43) => y.2.2.2.2) (mkL_get (z := (0, (0, (0, ([], 0))))) (i := i) e (by omega)); omega))
      ·replace h6 : (x0.getD i (0, (0, (0, ([], 0))))).2.2.2.2 = ((heldD s41) (x0.getD i (0, (0, (0, ([], 0))))).2.2.2.1 ((((x1 + ((ctL (Sh.ct s43) (List.take i x0) : Nat) : Int)) + 1) + 1) + 1)) := of_decide_eq_true (notF h6)
       refine wp_skip (then_normal ?_)
       refine at_regq [{}, { nw := true }] { ts := [0, 1, 4, 5], os := [] } [I64 (((heldD s41) (x0.getD i (0, (0, (0, ([], 0))))).2.2.2.1 ((((x1 + ((ctL (Sh.ct s43) (List.take i x0) : Nat) : Int)) + 1) + 1) + 1)) + 1)] gamOK hT h (by kernel_rfl) ⟨⟨by first | omega | (simp only [lsA]; omega) | (simp <;> omega), by first | omega | (simp only [lsA]; omega) | (simp <;> omega)⟩, trivial⟩ fun a w h => in_normal (then_normal ?_)
       refine at_regq [{}, { nw := true }] { ts := [0, 1, 4, 5], os := [] } [I64 (((i : Nat) : Int) + 1)] gamOK hT h (by kernel_rfl) ⟨⟨by first | omega | (simp only [lsA]; omega) | (simp <;> omega), by first | omega | (simp only [lsA]; omega) | (simp <;> omega)⟩, trivial⟩ fun a w h => ?_
       replace h := at_out (σ' := ⟨[(0, aF s43 x0), (1, aI (((heldD s41) (x0.getD i (0, (0, (0, ([], 0))))).2.2.2.1 ((((x1 + ((ctL (Sh.ct s43) (List.take i x0) : Nat) : Int)) + 1) + 1) + 1)) + 1)), (4, aI 0), (5, aI (((i : Nat) : Int) + 1))], []⟩) { ts := [0, 1, 4, 5], os := [] } h (by kernel_rfl)
       exact ⟨i + 1, at_eq h (st_congr2 (fun (d0 : Int) (d1 : Int) => (⟨[(0, aF s43 x0), (1, aI d0), (4, aI 0), (5, aI d1)], []⟩ : St)) (show (((heldD s41) (x0.getD i (0, (0, (0, ([], 0))))).2.2.2.1 ((((x1 + ((ctL (Sh.ct s43) (List.take i x0) : Nat) : Int)) + 1) + 1) + 1)) + 1 : Int) = (x1 + ((ctL (Sh.ct s43) (List.take (i + 1) x0) : Nat) : Int)) from by first | with_reducible rfl | (omega) | rfl) (show (((i : Nat) : Int) + 1 : Int) = (((i + 1) : Nat) : Int) from by first | with_reducible rfl | (omega) | rfl)), (by exact ⟨by omega, mkL_step (z := (0, (0, (0, ([], 0))))) (by omega) hok0.2 (Prod.ext (by show ((x1 + ((ctL (Sh.ct s43) (List.take i x0) : Nat) : Int)) : Int) = (x0.getD i (0, (0, (0, ([], 0))))).1; omega) (Prod.ext (by show ((x1 + ((ctL (Sh.ct s43) (List.take i x0) : Nat) : Int)) + ((1 : Nat) : Int) : Int) = (x0.getD i (0, (0, (0, ([], 0))))).2.1; omega) (Prod.ext (by show ((x1 + ((ctL (Sh.ct s43) (List.take i x0) : Nat) : Int)) + ((1 : Nat) : Int) + ((1 : Nat) : Int) : Int) = (x0.getD i (0, (0, (0, ([], 0))))).2.2.1; omega) (Prod.ext ((congrArg (fun k => Sh.mk s41 (x0.getD i (0, (0, (0, ([], 0))))).2.2.2.1 k) (show ((x1 + ((ctL (Sh.ct s43) (List.take i x0) : Nat) : Int)) + ((1 : Nat) : Int) + ((1 : Nat) : Int) + ((1 : Nat) : Int) : Int) = _ from by first | rfl | omega)).trans hvh5.1) (by show ((x1 + ((ctL (Sh.ct s43) (List.take i x0) : Nat) : Int)) + ((1 : Nat) : Int) + ((1 : Nat) : Int) + ((1 : Nat) : Int) + (((Sh.ct s41 (x0.getD i (0, (0, (0, ([], 0))))).2.2.2.1) : Nat) : Int) : Int) = (x0.getD i (0, (0, (0, ([], 0))))).2.2.2.2; omega)))))⟩), (by omega)⟩
 ·replace h1 : ¬ (((i : Nat) : Int) < ((List.length x0 : Nat) : Int)) := of_decide_eq_false h1
  refine wp_exit (then_exit (then_exit (in_hit (then_normal (wp_seq ?_)))))
  refine at_regq [] { ts := [4], os := [] } [] gamOK hT h (by kernel_rfl) trivial fun a w h => then_normal (wp_ret ?_)
  exact at_return ((x1 + ((ctL (Sh.ct s43) (List.take i x0) : Nat) : Int)), ()) [] h (by kernel_rfl) trivial (congrArg (fun z => (z, ())) (show ((x1 + ((ctL (Sh.ct s43) (List.take i x0) : Nat) : Int))) = (heldD s26) x0 x1 from by have e := hok0.2; rw [take_all (by omega)] at e; rw [heldD_pos (s := s26) e, hct0, take_all (by omega)]))

def S_laws_heldSource : Sum := { fid := 11, dom := [s31, (.int 3)], cod := [(.int 3)], dp := true, fz := false, pre := fun x => (pMkT s31) x.1 x.2.1, g := fun x => (((heldDT s31) x.1 x.2.1), ()) }
def S_laws_heldSource_tab : List (Nat × Sum) := [(28, S_laws_heldGenerationS), (29, S_laws_heldRecoderS), (30, S_laws_heldFeedbackTable)]
theorem S_laws_heldSource_ok : FnOK Try.prog 11 S_laws_heldSource := by
 refine at_enter 24 (fun x => ⟨[(0, aG [.ro s47 x.1.1, cI x.1.2.1.1, cI x.1.2.1.2.1, cI x.1.2.1.2.2.1, cI x.1.2.1.2.2.2, .ro s43 x.1.2.2.1, .ro s75 x.1.2.2.2.1, cI x.1.2.2.2.2]), (1, aI x.2.1)], []⟩) Try.func11 rfl (by kernel_rfl) (fun x => rfl) ?_
 rintro w0 Z0 ⟨x0, x1, u⟩ a w
 revert x0 x1
 intro (x0 : T31) (x1 : Int) hpre hlens h
 replace hpre : (pMkT s31) x0 x1 := hpre
 have hl1 : List.length x0.1 ≤ 9223372036854775807 := hlens.1.1.1
 have hl2 : List.length x0.2.2.1 ≤ 9223372036854775807 := hlens.1.2.2.1.1
 have hl3 : List.length x0.2.2.2.1 ≤ 9223372036854775807 := hlens.1.2.2.2.1.1
 have hT : TabOK Try.prog S_laws_heldSource_tab := (.cons S_laws_heldGenerationS_ok (.cons S_laws_heldRecoderS_ok (.cons S_laws_heldFeedbackTable_ok .nil)))
 have hp : 0 ≤ x1 ∧ x1 + ((Sh.ctT s31 x0 : Nat) : Int) ≤ 4611686018427387904 := hpre
 have hct0 : Sh.ctT s31 x0 = ((Sh.ct s23 x0.1) + (0 + ((Sh.ct s26 x0.2.2.1) + ((Sh.ctT s29 x0.2.2.2.1) + 0)))) := rfl
 refine wp_seq ?_
 refine at_regq [{ ids := [1] }] { ts := [1, 2, 4], os := [1] } [] gamOK hT h (by kernel_rfl) trivial fun a w h => then_normal (wp_seq ?_)
 refine at_regq [] { ts := [1, 2, 4], os := [1] } [(pMk s23) x0.1 x1] gamOK hT h (by kernel_rfl) ⟨(by (first | (show (0 : Int) ≤ _ ∧ _ + ((Sh.ct _ _ : Nat) : Int) ≤ (4611686018427387904 : Int); constructor <;> omega) | (show (0 : Int) ≤ _ ∧ _ + ((Sh.ctT _ _ : Nat) : Int) ≤ (4611686018427387904 : Int); constructor <;> omega))), trivial⟩ fun a w h => then_normal (wp_seq (wp_seq ?_))
 refine at_regq [] { ts := [1, 2, 4, 10], os := [1] } [] gamOK hT h (by kernel_rfl) trivial fun a w h => then_normal ?_
 refine at_test (decide (((heldD s23) x0.1 x1) < 0)) h (by kernel_rfl) (fun h1 => ?_) (fun h1 => ?_)
 ·replace h1 : ((heldD s23) x0.1 x1) < 0 := of_decide_eq_true h1
  have hvh1 := heldD_neg (by omega) h1
  refine wp_seq ?_
  refine at_regq [] { ts := [1, 2, 4], os := [1] } [] gamOK hT h (by kernel_rfl) trivial fun a w h => then_normal (wp_ret (then_ret ?_))
  exact at_return ((-1), ()) [] h (by kernel_rfl) trivial (congrArg (fun z => (z, ())) (show ((-1)) = (heldDT s31) x0 x1 from by refine (heldDT_no (s := s31) (fun e => ?_)).symm; have e2 : Sh.mk s23 x0.1 (x1) = x0.1 := (congrArg (fun (y : T31) => y.1) e); exact hvh1 ((congrArg (fun k => Sh.mk s23 x0.1 k) (show (_ : Int) = x1 from by first | rfl | omega)).trans e2)))
 ·replace h1 : ¬ (((heldD s23) x0.1 x1) < 0) := of_decide_eq_false h1
  have hvh1 := heldD_val h1
  refine wp_skip (then_normal (wp_seq ?_))
  refine at_regq [] { ts := [1, 2, 4], os := [1] } [(pMk s26) x0.2.2.1 ((heldD s23) x0.1 x1)] gamOK hT h (by kernel_rfl) ⟨(by (first | (show (0 : Int) ≤ _ ∧ _ + ((Sh.ct _ _ : Nat) : Int) ≤ (4611686018427387904 : Int); constructor <;> omega) | (show (0 : Int) ≤ _ ∧ _ + ((Sh.ctT _ _ : Nat) : Int) ≤ (4611686018427387904 : Int); constructor <;> omega))), trivial⟩ fun a w h => then_normal (wp_seq (wp_seq ?_))
  refine at_regq [] { ts := [1, 2, 4, 16], os := [1] } [] gamOK hT h (by kernel_rfl) trivial fun a w h => then_normal ?_
  refine at_test (decide (((heldD s26) x0.2.2.1 ((heldD s23) x0.1 x1)) < 0)) h (by kernel_rfl) (fun h2 => ?_) (fun h2 => ?_)
  ·replace h2 : ((heldD s26) x0.2.2.1 ((heldD s23) x0.1 x1)) < 0 := of_decide_eq_true h2
   have hvh2 := heldD_neg (by omega) h2
   refine wp_seq ?_
   refine at_regq [] { ts := [1, 2, 4], os := [1] } [] gamOK hT h (by kernel_rfl) trivial fun a w h => then_normal (wp_ret (then_ret ?_))
   exact at_return ((-1), ()) [] h (by kernel_rfl) trivial (congrArg (fun z => (z, ())) (show ((-1)) = (heldDT s31) x0 x1 from by refine (heldDT_no (s := s31) (fun e => ?_)).symm; have e2 : Sh.mk s26 x0.2.2.1 (x1 + (((Sh.ct s23 x0.1) : Nat) : Int) + ((0 : Nat) : Int)) = x0.2.2.1 := (congrArg (fun (y : T31) => y.2.2.1) e); exact hvh2 ((congrArg (fun k => Sh.mk s26 x0.2.2.1 k) (show (_ : Int) = x1 + (((Sh.ct s23 x0.1) : Nat) : Int) + ((0 : Nat) : Int) from by first | rfl | omega)).trans e2)))
  ·replace h2 : ¬ (((heldD s26) x0.2.2.1 ((heldD s23) x0.1 x1)) < 0) := of_decide_eq_false h2
   have hvh2 := heldD_val h2
   refine wp_skip (then_normal (wp_seq ?_))
   refine at_regq [] { ts := [1, 4], os := [] } [(pMkT s29) x0.2.2.2.1 ((heldD s26) x0.2.2.1 ((heldD s23) x0.1 x1))] gamOK hT h (by kernel_rfl) ⟨(by (first | (show (0 : Int) ≤ _ ∧ _ + ((Sh.ct _ _ : Nat) : Int) ≤ (4611686018427387904 : Int); constructor <;> omega) | (show (0 : Int) ≤ _ ∧ _ + ((Sh.ctT _ _ : Nat) : Int) ≤ (4611686018427387904 : Int); constructor <;> omega))), trivial⟩ fun a w h => then_normal (wp_seq (wp_seq ?_))
   refine at_regq [] { ts := [1, 4, 22], os := [] } [] gamOK hT h (by kernel_rfl) trivial fun a w h => then_normal ?_
   refine at_test (decide (((heldDT s29) x0.2.2.2.1 ((heldD s26) x0.2.2.1 ((heldD s23) x0.1 x1))) < 0)) h (by kernel_rfl) (fun h3 => ?_) (fun h3 => ?_)
   ·replace h3 : ((heldDT s29) x0.2.2.2.1 ((heldD s26) x0.2.2.1 ((heldD s23) x0.1 x1))) < 0 := of_decide_eq_true h3
    have hvh3 := heldDT_neg (by omega) h3
    refine wp_seq ?_
    refine at_regq [] { ts := [1, 4], os := [] } [] gamOK hT h (by kernel_rfl) trivial fun a w h => then_normal (wp_ret (then_ret ?_))
    exact at_return ((-1), ()) [] h (by kernel_rfl) trivial (congrArg (fun z => (z, ())) (show ((-1)) = (heldDT s31) x0 x1 from by refine (heldDT_no (s := s31) (fun e => ?_)).symm; have e2 : Sh.mkT s29 x0.2.2.2.1 (x1 + (((Sh.ct s23 x0.1) : Nat) : Int) + ((0 : Nat) : Int) + (((Sh.ct s26 x0.2.2.1) : Nat) : Int)) = x0.2.2.2.1 := (congrArg (fun (y : T31) => y.2.2.2.1) e); exact hvh3 ((congrArg (fun k => Sh.mkT s29 x0.2.2.2.1 k) (show (_ : Int) = x1 + (((Sh.ct s23 x0.1) : Nat) : Int) + ((0 : Nat) : Int) + (((Sh.ct s26 x0.2.2.1) : Nat) : Int) from by first | rfl | omega)).trans e2)))
   ·replace h3 : ¬ (((heldDT s29) x0.2.2.2.1 ((heldD s26) x0.2.2.1 ((heldD s23) x0.1 x1))) < 0) := of_decide_eq_false h3
    have hvh3 := heldDT_val h3
    refine wp_skip (then_normal (wp_seq ?_))
    refine at_regq [] { ts := [4], os := [] } [] gamOK hT h (by kernel_rfl) trivial fun a w h => then_normal (wp_ret ?_)
    exact at_return (((heldDT s29) x0.2.2.2.1 ((heldD s26) x0.2.2.1 ((heldD s23) x0.1 x1))), ()) [] h (by kernel_rfl) trivial (congrArg (fun z => (z, ())) (show (((heldDT s29) x0.2.2.2.1 ((heldD s26) x0.2.2.1 ((heldD s23) x0.1 x1)))) = (heldDT s31) x0 x1 from by rw [heldDT_pos (s := s31) (show Sh.mkT s31 x0 x1 = x0 from (Prod.ext ((congrArg (fun k => Sh.mk s23 x0.1 k) (show (x1 : Int) = _ from by first | rfl | omega)).trans hvh1.1) (Prod.ext rfl (Prod.ext ((congrArg (fun k => Sh.mk s26 x0.2.2.1 k) (show (x1 + (((Sh.ct s23 x0.1) : Nat) : Int) + ((0 : Nat) : Int) : Int) = _ from by first | rfl | omega)).trans hvh2.1) (Prod.ext ((congrArg (fun k => Sh.mkT s29 x0.2.2.2.1 k) (show (x1 + (((Sh.ct s23 x0.1) : Nat) : Int) + ((0 : Nat) : Int) + (((Sh.ct s26 x0.2.2.1) : Nat) : Int) : Int) = _ from by first | rfl | omega)).trans hvh3.1) rfl)))))]; omega))

def S_laws_markByteS : Sum := { fid := 9, dom := [s22, (.int 3)], cod := [(.int 3)], dp := true, fz := false, pre := fun x => (pMk s22) x.1 x.2.1, g := fun x => (((mkK s22) x.1 x.2.1), ()), kinds := [.io, .rd], upd := fun x => ((Sh.mk s22) x.1 x.2.1, (x.2.1, ())) }
def S_laws_markByteS_tab : List (Nat × Sum) := []
theorem S_laws_markByteS_ok : FnOK Try.prog 9 S_laws_markByteS := by
 refine at_enterI 20 [1] [2] (fun us x => ⟨[(0, aS 1), (1, aI x.2.1)], [(1, oR (.u8 5) x.1), (2, oP 1 (S_laws_markByteS.hd us 0))]⟩) Try.func9 rfl (by kernel_rfl) (fun us x => rfl) ?_
 rintro w0 Z0 us ⟨x0, x1, u⟩ L a w
 revert x0 x1
 intro (x0 : (List Int)) (x1 : Int) hio hpre hlens h
 replace h : At w0 Z0 L 20 ⟨[(0, aS 1), (1, aI x1)], [(1, oR (.u8 5) x0), (2, oP 1 (S_laws_markByteS.hd us 0))]⟩ a w := h
 replace hpre : (pMk s22) x0 x1 := hpre
 have hl1 : List.length x0 ≤ 9223372036854775807 := hlens.1.1
 have hu0 : u8L x0 := hlens.1.2
 have hT : TabOK Try.prog S_laws_markByteS_tab := .nil
 have hp : 0 ≤ x1 ∧ x1 + ((Sh.ct s22 x0 : Nat) : Int) ≤ 4611686018427387904 := hpre
 have hct0 : Sh.ct s22 x0 = ctL (Sh.ct (.u8 5)) x0 := rfl
 refine wp_seq ?_
 refine at_regq [] { ts := [0, 1, 4], os := [1, 2] } [] gamOK hT h (by kernel_rfl) trivial fun a w h => then_normal (wp_seq (wp_seq ?_))
 refine at_regq [] { ts := [0, 1, 4, 5], os := [1, 2] } [] gamOK hT h (by kernel_rfl) trivial fun a w h => then_normal (wp_block ?_)
 replace h := at_out (σ' := ⟨[(0, aS 1), (1, aI x1), (4, aI 0), (5, aI 0)], [(1, oR (.u8 5) x0), (2, oP 1 (S_laws_markByteS.hd us 0))]⟩) { ts := [0, 1, 4, 5], os := [1, 2] } h (by kernel_rfl)
 refine at_loop (fun i : Nat => (⟨[(0, aS 1), (1, aI (x1 + ((ctL (Sh.ct (.u8 5)) (List.take i x0) : Nat) : Int))), (4, aI 0), (5, aI ((i : Nat) : Int))], [(1, oR (.u8 5) (mkAt (Sh.mk (.u8 5)) (Sh.ct (.u8 5)) x1 x0 i)), (2, oP 1 (S_laws_markByteS.hd us 0))]⟩ : St)) (fun i => i ≤ List.length x0) (fun i => List.length x0 - i) (0) h (st_congr3 (fun (d0 : List Int) (d1 : Int) (d2 : Int) => (⟨[(0, aS 1), (1, aI d1), (4, aI 0), (5, aI d2)], [(1, oR (.u8 5) d0), (2, oP 1 (S_laws_markByteS.hd us 0))]⟩ : St)) (show (x0 : List Int) = (mkAt (Sh.mk (.u8 5)) (Sh.ct (.u8 5)) x1 x0 (0)) from by first | with_reducible rfl | (first | exact mkAt_zero.symm | simp [ctL]) | rfl) (show (x1 : Int) = (x1 + ((ctL (Sh.ct (.u8 5)) (List.take (0) x0) : Nat) : Int)) from by first | with_reducible rfl | (first | exact mkAt_zero.symm | simp [ctL]) | rfl) (show (0 : Int) = (((0) : Nat) : Int) from by first | with_reducible rfl | (first | exact mkAt_zero.symm | simp [ctL]) | rfl)) (by omega) ?_
 intro i a w hok0 h
 refine wp_seq (wp_seq ?_)
 refine at_regq [] { ts := [0, 1, 4, 5, 9], os := [1, 2] } [] gamOK hT h (by kernel_rfl) trivial fun a w h => then_normal ?_
 refine at_test (decide (((i : Nat) : Int) < ((List.length (mkAt (Sh.mk (.u8 5)) (Sh.ct (.u8 5)) x1 x0 i) : Nat) : Int))) h (by kernel_rfl) (fun h1 => ?_) (fun h1 => ?_)
 ·replace h1 : ((i : Nat) : Int) < ((List.length (mkAt (Sh.mk (.u8 5)) (Sh.ct (.u8 5)) x1 x0 i) : Nat) : Int) := of_decide_eq_true h1
  have hml : List.length (mkAt (Sh.mk (.u8 5)) (Sh.ct (.u8 5)) x1 x0 i) = List.length x0 := mkAt_len
  rw [hml] at h1
  have hat := ctL_at_le (c := Sh.ct (.u8 5)) (xs := x0) (z := 0) (i := i) (by omega)
  have hsu := ctL_take_succ (c := Sh.ct (.u8 5)) (xs := x0) (z := 0) (i := i) (by omega)
  have hci : Sh.ct (.u8 5) (x0.getD i 0) = 1 := rfl
  have hge : List.getD (mkAt (Sh.mk (.u8 5)) (Sh.ct (.u8 5)) x1 x0 i) i 0 = (x0.getD i 0) := mkAt_get (by omega)
  refine wp_skip (then_normal (wp_seq (wp_block (wp_seq ?_))))
  refine at_regq [] { ts := [0, 1, 4, 5], os := [1, 2] } [(0 : Int) ≤ ((i : Nat) : Int) ∧ ((i : Nat) : Int) < ((List.length (mkAt (Sh.mk (.u8 5)) (Sh.ct (.u8 5)) x1 x0 i) : Nat) : Int), i < List.length (mkAt (Sh.mk (.u8 5)) (Sh.ct (.u8 5)) x1 x0 i), (0 : Int) ≤ IntKind.u8.wrap ((x1 + ((ctL (Sh.ct (.u8 5)) (List.take i x0) : Nat) : Int))) ∧ IntKind.u8.wrap ((x1 + ((ctL (Sh.ct (.u8 5)) (List.take i x0) : Nat) : Int))) < (256 : Int)] gamOK hT h (by kernel_rfl) ⟨(by refine ⟨?_, ?_⟩ <;> (first | omega | ((try simp only [hge, mkK]); omega) | (simp only [lsA, mkAt_len]; omega) | (simp; done) | (simp; omega))), (by first | omega | ((try simp only [hge, mkK]); omega) | (simp only [lsA, mkAt_len]; omega) | (simp; done) | (simp; omega)), (by first | exact u8_range _ | exact getD_u8 (by assumption) _ | (refine ⟨?_, ?_⟩ <;> (first | omega | ((try simp only [hge, mkK]); omega) | (simp only [lsA, mkAt_len]; omega) | (simp; done) | (simp; omega)))), trivial⟩ fun a w h => then_normal ?_
  refine at_regq [{}, { nw := true }] { ts := [0, 1, 4, 5], os := [1, 2] } [I64 ((x1 + ((ctL (Sh.ct (.u8 5)) (List.take i x0) : Nat) : Int)) + 1)] gamOK hT h (by kernel_rfl) ⟨⟨by first | omega | ((try simp only [hge, mkK]); omega) | (simp only [lsA, mkAt_len]; omega) | (simp; done) | (simp; omega), by first | omega | ((try simp only [hge, mkK]); omega) | (simp only [lsA, mkAt_len]; omega) | (simp; done) | (simp; omega)⟩, trivial⟩ fun a w h => in_normal (then_normal ?_)
  refine at_regq [{}, { nw := true }] { ts := [0, 1, 4, 5], os := [1, 2] } [I64 (((i : Nat) : Int) + 1)] gamOK hT h (by kernel_rfl) ⟨⟨by first | omega | ((try simp only [hge, mkK]); omega) | (simp only [lsA, mkAt_len]; omega) | (simp; done) | (simp; omega), by first | omega | ((try simp only [hge, mkK]); omega) | (simp only [lsA, mkAt_len]; omega) | (simp; done) | (simp; omega)⟩, trivial⟩ fun a w h => ?_
  replace h := at_out (σ' := ⟨[(0, aS 1), (1, aI ((x1 + ((ctL (Sh.ct (.u8 5)) (List.take i x0) : Nat) : Int)) + 1)), (4, aI 0), (5, aI (((i : Nat) : Int) + 1))], [(1, oR (.u8 5) (List.set (mkAt (Sh.mk (.u8 5)) (Sh.ct (.u8 5)) x1 x0 i) i (IntKind.u8.wrap ((x1 + ((ctL (Sh.ct (.u8 5)) (List.take i x0) : Nat) : Int)))))), (2, oP 1 (S_laws_markByteS.hd us 0))]⟩) { ts := [0, 1, 4, 5], os := [1, 2] } h (by kernel_rfl)
  skip
  exact ⟨i + 1, at_eq h (st_congr3 (fun (d0 : List Int) (d1 : Int) (d2 : Int) => (⟨[(0, aS 1), (1, aI d1), (4, aI 0), (5, aI d2)], [(1, oR (.u8 5) d0), (2, oP 1 (S_laws_markByteS.hd us 0))]⟩ : St)) (show ((List.set (mkAt (Sh.mk (.u8 5)) (Sh.ct (.u8 5)) x1 x0 i) i (IntKind.u8.wrap ((x1 + ((ctL (Sh.ct (.u8 5)) (List.take i x0) : Nat) : Int))))) : List Int) = (mkAt (Sh.mk (.u8 5)) (Sh.ct (.u8 5)) x1 x0 (i + 1)) from by first | with_reducible rfl | (refine mkAt_set' (z := 0) (by omega) ?_; first | (simp only [hge, mkK]; done) | ((try simp only [hge, mkK]); show _ = Sh.mk (.u8 5) (x0.getD i 0) _; exact (congrArg IntKind.u8.wrap (by first | rfl | omega)))) | rfl) (show ((x1 + ((ctL (Sh.ct (.u8 5)) (List.take i x0) : Nat) : Int)) + 1 : Int) = (x1 + ((ctL (Sh.ct (.u8 5)) (List.take (i + 1) x0) : Nat) : Int)) from by first | with_reducible rfl | (((try simp only [hge, mkK]); omega)) | rfl) (show (((i : Nat) : Int) + 1 : Int) = (((i + 1) : Nat) : Int) from by first | with_reducible rfl | (omega) | rfl)), (by first | omega | (refine ⟨?_, ?_⟩ <;> omega)), (by omega)⟩
 ·replace h1 : ¬ (((i : Nat) : Int) < ((List.length (mkAt (Sh.mk (.u8 5)) (Sh.ct (.u8 5)) x1 x0 i) : Nat) : Int)) := of_decide_eq_false h1
  have hml : List.length (mkAt (Sh.mk (.u8 5)) (Sh.ct (.u8 5)) x1 x0 i) = List.length x0 := mkAt_len
  rw [hml] at h1
  refine wp_exit (then_exit (then_exit (in_hit (then_normal (wp_seq ?_)))))
  refine at_regq [] { ts := [4], os := [1, 2] } [] gamOK hT h (by kernel_rfl) trivial fun a w h => then_normal (wp_ret ?_)
  exact at_returnI (S := S_laws_markByteS) (x := (x0, x1, ())) [1] [2] ((mkAt (Sh.mk (.u8 5)) (Sh.ct (.u8 5)) x1 x0 i), (x1, ())) (some ((x1 + ((ctL (Sh.ct (.u8 5)) (List.take i x0) : Nat) : Int)), ())) [S_laws_markByteS.hd us 0 = S_laws_markByteS.hd us 0] hio h (by kernel_rfl) ⟨rfl, trivial⟩ (by first | rfl | exact congrArg (fun (z : (List Int)) => (z, (x1, ()))) (show ((mkAt (Sh.mk (.u8 5)) (Sh.ct (.u8 5)) x1 x0 i) : (List Int)) = (Sh.mk s22) x0 x1 from by exact mkAt_all (by omega))) (fun z e => (Option.some.inj e) ▸ (congrArg (fun z => (z, ())) (show ((x1 + ((ctL (Sh.ct (.u8 5)) (List.take i x0) : Nat) : Int))) = (mkK s22) x0 x1 from by (unfold mkK; rw [take_all (by omega)]; rfl))))

def S_laws_markIntS : Sum := { fid := 55, dom := [s61, (.int 3)], cod := [(.int 3)], dp := true, fz := false, pre := fun x => (pMk s61) x.1 x.2.1, g := fun x => (((mkK s61) x.1 x.2.1), ()), kinds := [.io, .rd], upd := fun x => ((Sh.mk s61) x.1 x.2.1, (x.2.1, ())) }
def S_laws_markIntS_tab : List (Nat × Sum) := []
theorem S_laws_markIntS_ok : FnOK Try.prog 55 S_laws_markIntS := by
 refine at_enterI 19 [1] [2] (fun us x => ⟨[(0, aS 1), (1, aI x.2.1)], [(1, oR (.int 3) x.1), (2, oP 1 (S_laws_markIntS.hd us 0))]⟩) Try.func55 rfl (by kernel_rfl) (fun us x => rfl) ?_
 rintro w0 Z0 us ⟨x0, x1, u⟩ L a w
 revert x0 x1
 intro (x0 : (List Int)) (x1 : Int) hio hpre hlens h
 replace h : At w0 Z0 L 19 ⟨[(0, aS 1), (1, aI x1)], [(1, oR (.int 3) x0), (2, oP 1 (S_laws_markIntS.hd us 0))]⟩ a w := h
 replace hpre : (pMk s61) x0 x1 := hpre
 have hl1 : List.length x0 ≤ 9223372036854775807 := hlens.1.1
 have hT : TabOK Try.prog S_laws_markIntS_tab := .nil
 have hp : 0 ≤ x1 ∧ x1 + ((Sh.ct s61 x0 : Nat) : Int) ≤ 4611686018427387904 := hpre
 have hct0 : Sh.ct s61 x0 = ctL (Sh.ct (.int 3)) x0 := rfl
 refine wp_seq ?_
 refine at_regq [] { ts := [0, 1, 4], os := [1, 2] } [] gamOK hT h (by kernel_rfl) trivial fun a w h => then_normal (wp_seq (wp_seq ?_))
 refine at_regq [] { ts := [0, 1, 4, 5], os := [1, 2] } [] gamOK hT h (by kernel_rfl) trivial fun a w h => then_normal (wp_block ?_)
 replace h := at_out (σ' := ⟨[(0, aS 1), (1, aI x1), (4, aI 0), (5, aI 0)], [(1, oR (.int 3) x0), (2, oP 1 (S_laws_markIntS.hd us 0))]⟩) { ts := [0, 1, 4, 5], os := [1, 2] } h (by kernel_rfl)
 refine at_loop (fun i : Nat => (⟨[(0, aS 1), (1, aI (x1 + ((ctL (Sh.ct (.int 3)) (List.take i x0) : Nat) : Int))), (4, aI 0), (5, aI ((i : Nat) : Int))], [(1, oR (.int 3) (mkAt (Sh.mk (.int 3)) (Sh.ct (.int 3)) x1 x0 i)), (2, oP 1 (S_laws_markIntS.hd us 0))]⟩ : St)) (fun i => i ≤ List.length x0) (fun i => List.length x0 - i) (0) h (st_congr3 (fun (d0 : List Int) (d1 : Int) (d2 : Int) => (⟨[(0, aS 1), (1, aI d1), (4, aI 0), (5, aI d2)], [(1, oR (.int 3) d0), (2, oP 1 (S_laws_markIntS.hd us 0))]⟩ : St)) (show (x0 : List Int) = (mkAt (Sh.mk (.int 3)) (Sh.ct (.int 3)) x1 x0 (0)) from by first | with_reducible rfl | (first | exact mkAt_zero.symm | simp [ctL]) | rfl) (show (x1 : Int) = (x1 + ((ctL (Sh.ct (.int 3)) (List.take (0) x0) : Nat) : Int)) from by first | with_reducible rfl | (first | exact mkAt_zero.symm | simp [ctL]) | rfl) (show (0 : Int) = (((0) : Nat) : Int) from by first | with_reducible rfl | (first | exact mkAt_zero.symm | simp [ctL]) | rfl)) (by omega) ?_
 intro i a w hok0 h
 refine wp_seq (wp_seq ?_)
 refine at_regq [] { ts := [0, 1, 4, 5, 9], os := [1, 2] } [] gamOK hT h (by kernel_rfl) trivial fun a w h => then_normal ?_
 refine at_test (decide (((i : Nat) : Int) < ((List.length (mkAt (Sh.mk (.int 3)) (Sh.ct (.int 3)) x1 x0 i) : Nat) : Int))) h (by kernel_rfl) (fun h1 => ?_) (fun h1 => ?_)
 ·replace h1 : ((i : Nat) : Int) < ((List.length (mkAt (Sh.mk (.int 3)) (Sh.ct (.int 3)) x1 x0 i) : Nat) : Int) := of_decide_eq_true h1
  have hml : List.length (mkAt (Sh.mk (.int 3)) (Sh.ct (.int 3)) x1 x0 i) = List.length x0 := mkAt_len
  rw [hml] at h1
  have hat := ctL_at_le (c := Sh.ct (.int 3)) (xs := x0) (z := 0) (i := i) (by omega)
  have hsu := ctL_take_succ (c := Sh.ct (.int 3)) (xs := x0) (z := 0) (i := i) (by omega)
  have hci : Sh.ct (.int 3) (x0.getD i 0) = 1 := rfl
  have hge : List.getD (mkAt (Sh.mk (.int 3)) (Sh.ct (.int 3)) x1 x0 i) i 0 = (x0.getD i 0) := mkAt_get (by omega)
  refine wp_skip (then_normal (wp_seq (wp_block (wp_seq ?_))))
  refine at_regq [] { ts := [0, 1, 4, 5], os := [1, 2] } [(0 : Int) ≤ ((i : Nat) : Int) ∧ ((i : Nat) : Int) < ((List.length (mkAt (Sh.mk (.int 3)) (Sh.ct (.int 3)) x1 x0 i) : Nat) : Int), i < List.length (mkAt (Sh.mk (.int 3)) (Sh.ct (.int 3)) x1 x0 i)] gamOK hT h (by kernel_rfl) ⟨(by refine ⟨?_, ?_⟩ <;> (first | omega | ((try simp only [hge, mkK]); omega) | (simp only [lsA, mkAt_len]; omega) | (simp; done) | (simp; omega))), (by first | omega | ((try simp only [hge, mkK]); omega) | (simp only [lsA, mkAt_len]; omega) | (simp; done) | (simp; omega)), trivial⟩ fun a w h => then_normal ?_
  refine at_regq [{}, { nw := true }] { ts := [0, 1, 4, 5], os := [1, 2] } [I64 ((x1 + ((ctL (Sh.ct (.int 3)) (List.take i x0) : Nat) : Int)) + 1)] gamOK hT h (by kernel_rfl) ⟨⟨by first | omega | ((try simp only [hge, mkK]); omega) | (simp only [lsA, mkAt_len]; omega) | (simp; done) | (simp; omega), by first | omega | ((try simp only [hge, mkK]); omega) | (simp only [lsA, mkAt_len]; omega) | (simp; done) | (simp; omega)⟩, trivial⟩ fun a w h => in_normal (then_normal ?_)
  refine at_regq [{}, { nw := true }] { ts := [0, 1, 4, 5], os := [1, 2] } [I64 (((i : Nat) : Int) + 1)] gamOK hT h (by kernel_rfl) ⟨⟨by first | omega | ((try simp only [hge, mkK]); omega) | (simp only [lsA, mkAt_len]; omega) | (simp; done) | (simp; omega), by first | omega | ((try simp only [hge, mkK]); omega) | (simp only [lsA, mkAt_len]; omega) | (simp; done) | (simp; omega)⟩, trivial⟩ fun a w h => ?_
  replace h := at_out (σ' := ⟨[(0, aS 1), (1, aI ((x1 + ((ctL (Sh.ct (.int 3)) (List.take i x0) : Nat) : Int)) + 1)), (4, aI 0), (5, aI (((i : Nat) : Int) + 1))], [(1, oR (.int 3) (List.set (mkAt (Sh.mk (.int 3)) (Sh.ct (.int 3)) x1 x0 i) i (x1 + ((ctL (Sh.ct (.int 3)) (List.take i x0) : Nat) : Int)))), (2, oP 1 (S_laws_markIntS.hd us 0))]⟩) { ts := [0, 1, 4, 5], os := [1, 2] } h (by kernel_rfl)
  skip
  exact ⟨i + 1, at_eq h (st_congr3 (fun (d0 : List Int) (d1 : Int) (d2 : Int) => (⟨[(0, aS 1), (1, aI d1), (4, aI 0), (5, aI d2)], [(1, oR (.int 3) d0), (2, oP 1 (S_laws_markIntS.hd us 0))]⟩ : St)) (show ((List.set (mkAt (Sh.mk (.int 3)) (Sh.ct (.int 3)) x1 x0 i) i (x1 + ((ctL (Sh.ct (.int 3)) (List.take i x0) : Nat) : Int))) : List Int) = (mkAt (Sh.mk (.int 3)) (Sh.ct (.int 3)) x1 x0 (i + 1)) from by first | with_reducible rfl | (refine mkAt_set' (z := 0) (by omega) ?_; first | (simp only [hge, mkK]; done) | ((try simp only [hge, mkK]); show _ = Sh.mk (.int 3) (x0.getD i 0) _; exact (by show (_ : Int) = _; first | rfl | omega))) | rfl) (show ((x1 + ((ctL (Sh.ct (.int 3)) (List.take i x0) : Nat) : Int)) + 1 : Int) = (x1 + ((ctL (Sh.ct (.int 3)) (List.take (i + 1) x0) : Nat) : Int)) from by first | with_reducible rfl | (((try simp only [hge, mkK]); omega)) | rfl) (show (((i : Nat) : Int) + 1 : Int) = (((i + 1) : Nat) : Int) from by first | with_reducible rfl | (omega) | rfl)), (by first | omega | (refine ⟨?_, ?_⟩ <;> omega)), (by omega)⟩
 ·replace h1 : ¬ (((i : Nat) : Int) < ((List.length (mkAt (Sh.mk (.int 3)) (Sh.ct (.int 3)) x1 x0 i) : Nat) : Int)) := of_decide_eq_false h1
  have hml : List.length (mkAt (Sh.mk (.int 3)) (Sh.ct (.int 3)) x1 x0 i) = List.length x0 := mkAt_len
  rw [hml] at h1
  refine wp_exit (then_exit (then_exit (in_hit (then_normal (wp_seq ?_)))))
  refine at_regq [] { ts := [4], os := [1, 2] } [] gamOK hT h (by kernel_rfl) trivial fun a w h => then_normal (wp_ret ?_)
  exact at_returnI (S := S_laws_markIntS) (x := (x0, x1, ())) [1] [2] ((mkAt (Sh.mk (.int 3)) (Sh.ct (.int 3)) x1 x0 i), (x1, ())) (some ((x1 + ((ctL (Sh.ct (.int 3)) (List.take i x0) : Nat) : Int)), ())) [S_laws_markIntS.hd us 0 = S_laws_markIntS.hd us 0] hio h (by kernel_rfl) ⟨rfl, trivial⟩ (by first | rfl | exact congrArg (fun (z : (List Int)) => (z, (x1, ()))) (show ((mkAt (Sh.mk (.int 3)) (Sh.ct (.int 3)) x1 x0 i) : (List Int)) = (Sh.mk s61) x0 x1 from by exact mkAt_all (by omega))) (fun z e => (Option.some.inj e) ▸ (congrArg (fun z => (z, ())) (show ((x1 + ((ctL (Sh.ct (.int 3)) (List.take i x0) : Nat) : Int))) = (mkK s61) x0 x1 from by (unfold mkK; rw [take_all (by omega)]; rfl))))

def S_laws_markCodedPacketS : Sum := { fid := 44, dom := [s41, (.int 3)], cod := [(.int 3)], dp := true, fz := false, pre := fun x => (pMk s41) x.1 x.2.1, g := fun x => (((mkK s41) x.1 x.2.1), ()), kinds := [.io, .rd], upd := fun x => ((Sh.mk s41) x.1 x.2.1, (x.2.1, ())) }
def S_laws_markCodedPacketS_tab : List (Nat × Sum) := [(55, S_laws_markIntS)]
theorem S_laws_markCodedPacketS_ok : FnOK Try.prog 44 S_laws_markCodedPacketS := by
 refine at_enterI 34 [1] [2] (fun us x => ⟨[(0, aS 1), (1, aI x.2.1)], [(1, oR s78 x.1), (2, oP 1 (S_laws_markCodedPacketS.hd us 0))]⟩) Try.func44 rfl (by kernel_rfl) (fun us x => rfl) ?_
 rintro w0 Z0 us ⟨x0, x1, u⟩ L a w
 revert x0 x1
 intro (x0 : (List T78)) (x1 : Int) hio hpre hlens h
 replace h : At w0 Z0 L 34 ⟨[(0, aS 1), (1, aI x1)], [(1, oR s78 x0), (2, oP 1 (S_laws_markCodedPacketS.hd us 0))]⟩ a w := h
 replace hpre : (pMk s41) x0 x1 := hpre
 have hl1 : List.length x0 ≤ 9223372036854775807 := hlens.1.1
 have hT : TabOK Try.prog S_laws_markCodedPacketS_tab := (.cons S_laws_markIntS_ok .nil)
 have hp : 0 ≤ x1 ∧ x1 + ((Sh.ct s41 x0 : Nat) : Int) ≤ 4611686018427387904 := hpre
 have hct0 : Sh.ct s41 x0 = ctL (Sh.ct s78) x0 := rfl
 refine wp_seq ?_
 refine at_regq [] { ts := [0, 1, 4], os := [1, 2] } [] gamOK hT h (by kernel_rfl) trivial fun a w h => then_normal (wp_seq (wp_seq ?_))
 refine at_regq [] { ts := [0, 1, 4, 5], os := [1, 2] } [] gamOK hT h (by kernel_rfl) trivial fun a w h => then_normal (wp_block ?_)
 replace h := at_out (σ' := ⟨[(0, aS 1), (1, aI x1), (4, aI 0), (5, aI 0)], [(1, oR s78 x0), (2, oP 1 (S_laws_markCodedPacketS.hd us 0))]⟩) { ts := [0, 1, 4, 5], os := [1, 2] } h (by kernel_rfl)
 refine at_loop (fun i : Nat => (⟨[(0, aS 1), (1, aI (x1 + ((ctL (Sh.ct s78) (List.take i x0) : Nat) : Int))), (4, aI 0), (5, aI ((i : Nat) : Int))], [(1, oR s78 (mkAt (Sh.mk s78) (Sh.ct s78) x1 x0 i)), (2, oP 1 (S_laws_markCodedPacketS.hd us 0))]⟩ : St)) (fun i => i ≤ List.length x0) (fun i => List.length x0 - i) (0) h (st_congr3 (fun (d0 : List T78) (d1 : Int) (d2 : Int) => (⟨[(0, aS 1), (1, aI d1), (4, aI 0), (5, aI d2)], [(1, oR s78 d0), (2, oP 1 (S_laws_markCodedPacketS.hd us 0))]⟩ : St)) (show (x0 : List T78) = (mkAt (Sh.mk s78) (Sh.ct s78) x1 x0 (0)) from by first | with_reducible rfl | (first | exact mkAt_zero.symm | simp [ctL]) | rfl) (show (x1 : Int) = (x1 + ((ctL (Sh.ct s78) (List.take (0) x0) : Nat) : Int)) from by first | with_reducible rfl | (first | exact mkAt_zero.symm | simp [ctL]) | rfl) (show (0 : Int) = (((0) : Nat) : Int) from by first | with_reducible rfl | (first | exact mkAt_zero.symm | simp [ctL]) | rfl)) (by omega) ?_
 intro i a w hok0 h
 refine wp_seq (wp_seq ?_)
 refine at_regq [] { ts := [0, 1, 4, 5, 9], os := [1, 2] } [] gamOK hT h (by kernel_rfl) trivial fun a w h => then_normal ?_
 refine at_test (decide (((i : Nat) : Int) < ((List.length (mkAt (Sh.mk s78) (Sh.ct s78) x1 x0 i) : Nat) : Int))) h (by kernel_rfl) (fun h1 => ?_) (fun h1 => ?_)
 ·replace h1 : ((i : Nat) : Int) < ((List.length (mkAt (Sh.mk s78) (Sh.ct s78) x1 x0 i) : Nat) : Int) := of_decide_eq_true h1
  have hml : List.length (mkAt (Sh.mk s78) (Sh.ct s78) x1 x0 i) = List.length x0 := mkAt_len
  rw [hml] at h1
  have hat := ctL_at_le (c := Sh.ct s78) (xs := x0) (z := (0, ([], []))) (i := i) (by omega)
  have hsu := ctL_take_succ (c := Sh.ct s78) (xs := x0) (z := (0, ([], []))) (i := i) (by omega)
  have hci : Sh.ct s78 (x0.getD i (0, ([], []))) = (1 + ((Sh.ct s61 (x0.getD i (0, ([], []))).2.1) + (Sh.ct s61 (x0.getD i (0, ([], []))).2.2))) := rfl
  have hge : List.getD (mkAt (Sh.mk s78) (Sh.ct s78) x1 x0 i) i (0, ([], [])) = (x0.getD i (0, ([], []))) := mkAt_get (by omega)
  refine wp_skip (then_normal (wp_seq (wp_block (wp_seq ?_))))
  replace h := at_open (σ' := ⟨[(0, aS 1), (1, aI (x1 + ((ctL (Sh.ct s78) (List.take i x0) : Nat) : Int))), (4, aI 0), (5, aI ((i : Nat) : Int)), (9, aB (decide (((i : Nat) : Int) < ((List.length (mkAt (Sh.mk s78) (Sh.ct s78) x1 x0 i) : Nat) : Int))))], [(1, some (.op s78 (mkAt (Sh.mk s78) (Sh.ct s78) x1 x0 i) i [cI ((mkAt (Sh.mk s78) (Sh.ct s78) x1 x0 i).getD i (0, ([], []))).1, .sl 3, .sl 4])), (2, oP 1 (S_laws_markCodedPacketS.hd us 0)), (3, oR (.int 3) ((mkAt (Sh.mk s78) (Sh.ct s78) x1 x0 i).getD i (0, ([], []))).2.1), (4, oR (.int 3) ((mkAt (Sh.mk s78) (Sh.ct s78) x1 x0 i).getD i (0, ([], []))).2.2)]⟩) (ps := [i < List.length (mkAt (Sh.mk s78) (Sh.ct s78) x1 x0 i)]) 1 i [3, 4] { ts := [0, 1, 4, 5, 9], os := [1, 2, 3, 4] } h (by kernel_rfl) ⟨(by first | omega | ((try simp only [hge, mkK]); omega) | (simp only [lsA, mkAt_len]; omega) | (simp; done) | (simp; omega)), trivial⟩
  refine at_regq [] { ts := [0, 1, 4, 5], os := [1, 2, 3, 4] } [(0 : Int) ≤ ((i : Nat) : Int) ∧ ((i : Nat) : Int) < ((List.length (mkAt (Sh.mk s78) (Sh.ct s78) x1 x0 i) : Nat) : Int), i = i] gamOK hT h (by kernel_rfl) ⟨(by refine ⟨?_, ?_⟩ <;> (first | omega | ((try simp only [hge, mkK]); omega) | (simp only [lsA, mkAt_len]; omega) | (simp; done) | (simp; omega))), rfl, trivial⟩ fun a w h => then_normal (wp_seq ?_)
  refine at_regq [{}, { nw := true }] { ts := [0, 1, 4, 5], os := [1, 2, 3, 4] } [I64 ((x1 + ((ctL (Sh.ct s78) (List.take i x0) : Nat) : Int)) + 1)] gamOK hT h (by kernel_rfl) ⟨⟨by first | omega | ((try simp only [hge, mkK]); omega) | (simp only [lsA, mkAt_len]; omega) | (simp; done) | (simp; omega), by first | omega | ((try simp only [hge, mkK]); omega) | (simp only [lsA, mkAt_len]; omega) | (simp; done) | (simp; omega)⟩, trivial⟩ fun a w h => then_normal (wp_seq ?_)
  refine at_regq [] { ts := [0, 1, 4, 5], os := [1, 2, 3, 4] } [(0 : Int) ≤ ((i : Nat) : Int) ∧ ((i : Nat) : Int) < ((List.length (mkAt (Sh.mk s78) (Sh.ct s78) x1 x0 i) : Nat) : Int), i = i, (pMk s61) ((mkAt (Sh.mk s78) (Sh.ct s78) x1 x0 i).getD i (0, ([], []))).2.1 ((x1 + ((ctL (Sh.ct s78) (List.take i x0) : Nat) : Int)) + 1)] gamOK hT h (by kernel_rfl) ⟨(by refine ⟨?_, ?_⟩ <;> (first | omega | ((try simp only [hge, mkK]); omega) | (simp only [lsA, mkAt_len]; omega) | (simp; done) | (simp; omega))), rfl, (by (show (0 : Int) ≤ _ ∧ _ + ((Sh.ct _ _ : Nat) : Int) ≤ (4611686018427387904 : Int); (try simp only [hge, mkK]); constructor <;> omega)), trivial⟩ fun a w h => then_normal ?_
  refine at_regq [] { ts := [0, 1, 4, 5], os := [1, 2, 3, 4] } [(0 : Int) ≤ ((i : Nat) : Int) ∧ ((i : Nat) : Int) < ((List.length (mkAt (Sh.mk s78) (Sh.ct s78) x1 x0 i) : Nat) : Int), i = i, (pMk s61) ((mkAt (Sh.mk s78) (Sh.ct s78) x1 x0 i).getD i (0, ([], []))).2.2 ((mkK s61) ((mkAt (Sh.mk s78) (Sh.ct s78) x1 x0 i).getD i (0, ([], []))).2.1 ((x1 + ((ctL (Sh.ct s78) (List.take i x0) : Nat) : Int)) + 1))] gamOK hT h (by kernel_rfl) ⟨(by refine ⟨?_, ?_⟩ <;> (first | omega | ((try simp only [hge, mkK]); omega) | (simp only [lsA, mkAt_len]; omega) | (simp; done) | (simp; omega))), rfl, (by (show (0 : Int) ≤ _ ∧ _ + ((Sh.ct _ _ : Nat) : Int) ≤ (4611686018427387904 : Int); (try simp only [hge, mkK]); constructor <;> omega)), trivial⟩ fun a w h => in_normal (then_normal ?_)
  refine at_regq [{}, { nw := true }] { ts := [0, 1, 4, 5], os := [1, 2, 3, 4] } [I64 (((i : Nat) : Int) + 1)] gamOK hT h (by kernel_rfl) ⟨⟨by first | omega | ((try simp only [hge, mkK]); omega) | (simp only [lsA, mkAt_len]; omega) | (simp; done) | (simp; omega), by first | omega | ((try simp only [hge, mkK]); omega) | (simp only [lsA, mkAt_len]; omega) | (simp; done) | (simp; omega)⟩, trivial⟩ fun a w h => ?_
  replace h := at_shut (σ' := ⟨[(0, aS 1), (1, aI ((mkK s61) ((mkAt (Sh.mk s78) (Sh.ct s78) x1 x0 i).getD i (0, ([], []))).2.2 ((mkK s61) ((mkAt (Sh.mk s78) (Sh.ct s78) x1 x0 i).getD i (0, ([], []))).2.1 ((x1 + ((ctL (Sh.ct s78) (List.take i x0) : Nat) : Int)) + 1)))), (4, aI 0), (5, aI (((i : Nat) : Int) + 1))], [(1, oR s78 (List.set (mkAt (Sh.mk s78) (Sh.ct s78) x1 x0 i) i ((x1 + ((ctL (Sh.ct s78) (List.take i x0) : Nat) : Int)), (((Sh.mk s61) ((mkAt (Sh.mk s78) (Sh.ct s78) x1 x0 i).getD i (0, ([], []))).2.1 ((x1 + ((ctL (Sh.ct s78) (List.take i x0) : Nat) : Int)) + 1)), ((Sh.mk s61) ((mkAt (Sh.mk s78) (Sh.ct s78) x1 x0 i).getD i (0, ([], []))).2.2 ((mkK s61) ((mkAt (Sh.mk s78) (Sh.ct s78) x1 x0 i).getD i (0, ([], []))).2.1 ((x1 + ((ctL (Sh.ct s78) (List.take i x0) : Nat) : Int)) + 1))))))), (2, oP 1 (S_laws_markCodedPacketS.hd us 0))]⟩) (ps := []) 1 { ts := [0, 1, 4, 5], os := [1, 2] } h (by kernel_rfl) trivial
  replace h := at_out (σ' := ⟨[(0, aS 1), (1, aI ((mkK s61) ((mkAt (Sh.mk s78) (Sh.ct s78) x1 x0 i).getD i (0, ([], []))).2.2 ((mkK s61) ((mkAt (Sh.mk s78) (Sh.ct s78) x1 x0 i).getD i (0, ([], []))).2.1 ((x1 + ((ctL (Sh.ct s78) (List.take i x0) : Nat) : Int)) + 1)))), (4, aI 0), (5, aI (((i : Nat) : Int) + 1))], [(1, oR s78 (List.set (mkAt (Sh.mk s78) (Sh.ct s78) x1 x0 i) i ((x1 + ((ctL (Sh.ct s78) (List.take i x0) : Nat) : Int)), (((Sh.mk s61) ((mkAt (Sh.mk s78) (Sh.ct s78) x1 x0 i).getD i (0, ([], []))).2.1 ((x1 + ((ctL (Sh.ct s78) (List.take i x0) : Nat) : Int)) + 1)), ((Sh.mk s61) ((mkAt (Sh.mk s78) (Sh.ct s78) x1 x0 i).getD i (0, ([], []))).2.2 ((mkK s61) ((mkAt (Sh.mk s78) (Sh.ct s78) x1 x0 i).getD i (0, ([], []))).2.1 ((x1 + ((ctL (Sh.ct s78) (List.take i x0) : Nat) : Int)) + 1))))))), (2, oP 1 (S_laws_markCodedPacketS.hd us 0))]⟩) { ts := [0, 1, 4, 5], os := [1, 2] } h (by kernel_rfl)
  skip
  exact ⟨i + 1, at_eq h (st_congr3 (fun (d0 : List T78) (d1 : Int) (d2 : Int) => (⟨[(0, aS 1), (1, aI d1), (4, aI 0), (5, aI d2)], [(1, oR s78 d0), (2, oP 1 (S_laws_markCodedPacketS.hd us 0))]⟩ : St)) (show ((List.set (mkAt (Sh.mk s78) (Sh.ct s78) x1 x0 i) i ((x1 + ((ctL (Sh.ct s78) (List.take i x0) : Nat) : Int)), (((Sh.mk s61) ((mkAt (Sh.mk s78) (Sh.ct s78) x1 x0 i).getD i (0, ([], []))).2.1 ((x1 + ((ctL (Sh.ct s78) (List.take i x0) : Nat) : Int)) + 1)), ((Sh.mk s61) ((mkAt (Sh.mk s78) (Sh.ct s78) x1 x0 i).getD i (0, ([], []))).2.2 ((mkK s61) ((mkAt (Sh.mk s78) (Sh.ct s78) x1 x0 i).getD i (0, ([], []))).2.1 ((x1 + ((ctL (Sh.ct s78) (List.take i x0) : Nat) : Int)) + 1)))))) : List T78) = (mkAt (Sh.mk s78) (Sh.ct s78) x1 x0 (i + 1)) from by first | with_reducible rfl | (refine mkAt_set' (z := (0, ([], []))) (by omega) ?_; first | (simp only [hge, mkK]; done) | ((try simp only [hge, mkK]); show _ = Sh.mk s78 (x0.getD i (0, ([], []))) _; exact (Prod.ext (by show (_ : Int) = _; first | rfl | omega) (Prod.ext (congrArg (fun k => Sh.mk s61 (x0.getD i (0, ([], []))).2.1 k) (by first | rfl | omega)) (congrArg (fun k => Sh.mk s61 (x0.getD i (0, ([], []))).2.2 k) (by first | rfl | omega)))))) | rfl) (show (((mkK s61) ((mkAt (Sh.mk s78) (Sh.ct s78) x1 x0 i).getD i (0, ([], []))).2.2 ((mkK s61) ((mkAt (Sh.mk s78) (Sh.ct s78) x1 x0 i).getD i (0, ([], []))).2.1 ((x1 + ((ctL (Sh.ct s78) (List.take i x0) : Nat) : Int)) + 1))) : Int) = (x1 + ((ctL (Sh.ct s78) (List.take (i + 1) x0) : Nat) : Int)) from by first | with_reducible rfl | (((try simp only [hge, mkK]); omega)) | rfl) (show (((i : Nat) : Int) + 1 : Int) = (((i + 1) : Nat) : Int) from by first | with_reducible rfl | (omega) | rfl)), (by first | omega | (refine ⟨?_, ?_⟩ <;> omega)), (by omega)⟩
 ·replace h1 : ¬ (((i : Nat) : Int) < ((List.length (mkAt (Sh.mk s78) (Sh.ct s78) x1 x0 i) : Nat) : Int)) := of_decide_eq_false h1
  have hml : List.length (mkAt (Sh.mk s78) (Sh.ct s78) x1 x0 i) = List.length x0 := mkAt_len
  rw [hml] at h1
  refine wp_exit (then_exit (then_exit (in_hit (then_normal (wp_seq ?_)))))
  refine at_regq [] { ts := [4], os := [1, 2] } [] gamOK hT h (by kernel_rfl) trivial fun a w h => then_normal (wp_ret ?_)
  exact at_returnI (S := S_laws_markCodedPacketS) (x := (x0, x1, ())) [1] [2] ((mkAt (Sh.mk s78) (Sh.ct s78) x1 x0 i), (x1, ())) (some ((x1 + ((ctL (Sh.ct s78) (List.take i x0) : Nat) : Int)), ())) [S_laws_markCodedPacketS.hd us 0 = S_laws_markCodedPacketS.hd us 0] hio h (by kernel_rfl) ⟨rfl, trivial⟩ (by first | rfl | exact congrArg (fun (z : (List T78)) => (z, (x1, ()))) (show ((mkAt (Sh.mk s78) (Sh.ct s78) x1 x0 i) : (List T78)) = (Sh.mk s41) x0 x1 from by exact mkAt_all (by omega))) (fun z e => (Option.some.inj e) ▸ (congrArg (fun z => (z, ())) (show ((x1 + ((ctL (Sh.ct s78) (List.take i x0) : Nat) : Int))) = (mkK s41) x0 x1 from by (unfold mkK; rw [take_all (by omega)]; rfl))))

def S_laws_markFeedbackS : Sum := { fid := 45, dom := [s27, (.int 3)], cod := [(.int 3)], dp := true, fz := false, pre := fun x => (pMk s27) x.1 x.2.1, g := fun x => (((mkK s27) x.1 x.2.1), ()), kinds := [.io, .rd], upd := fun x => ((Sh.mk s27) x.1 x.2.1, (x.2.1, ())) }
def S_laws_markFeedbackS_tab : List (Nat × Sum) := []
theorem S_laws_markFeedbackS_ok : FnOK Try.prog 45 S_laws_markFeedbackS := by
 refine at_enterI 34 [1] [2] (fun us x => ⟨[(0, aS 1), (1, aI x.2.1)], [(1, oR s75 x.1), (2, oP 1 (S_laws_markFeedbackS.hd us 0))]⟩) Try.func45 rfl (by kernel_rfl) (fun us x => rfl) ?_
 rintro w0 Z0 us ⟨x0, x1, u⟩ L a w
 revert x0 x1
 intro (x0 : (List T75)) (x1 : Int) hio hpre hlens h
 replace h : At w0 Z0 L 34 ⟨[(0, aS 1), (1, aI x1)], [(1, oR s75 x0), (2, oP 1 (S_laws_markFeedbackS.hd us 0))]⟩ a w := h
 replace hpre : (pMk s27) x0 x1 := hpre
 have hl1 : List.length x0 ≤ 9223372036854775807 := hlens.1.1
 have hT : TabOK Try.prog S_laws_markFeedbackS_tab := .nil
 have hp : 0 ≤ x1 ∧ x1 + ((Sh.ct s27 x0 : Nat) : Int) ≤ 4611686018427387904 := hpre
 have hct0 : Sh.ct s27 x0 = ctL (Sh.ct s75) x0 := rfl
 refine wp_seq ?_
 refine at_regq [] { ts := [0, 1, 4], os := [1, 2] } [] gamOK hT h (by kernel_rfl) trivial fun a w h => then_normal (wp_seq (wp_seq ?_))
 refine at_regq [] { ts := [0, 1, 4, 5], os := [1, 2] } [] gamOK hT h (by kernel_rfl) trivial fun a w h => then_normal (wp_block ?_)
 replace h := at_out (σ' := ⟨[(0, aS 1), (1, aI x1), (4, aI 0), (5, aI 0)], [(1, oR s75 x0), (2, oP 1 (S_laws_markFeedbackS.hd us 0))]⟩) { ts := [0, 1, 4, 5], os := [1, 2] } h (by kernel_rfl)
 refine at_loop (fun i : Nat => (⟨[(0, aS 1), (1, aI (x1 + ((ctL (Sh.ct s75) (List.take i x0) : Nat) : Int))), (4, aI 0), (5, aI ((i : Nat) : Int))], [(1, oR s75 (mkAt (Sh.mk s75) (Sh.ct s75) x1 x0 i)), (2, oP 1 (S_laws_markFeedbackS.hd us 0))]⟩ : St)) (fun i => i ≤ List.length x0) (fun i => List.length x0 - i) (0) h (st_congr3 (fun (d0 : List T75) (d1 : Int) (d2 : Int) => (⟨[(0, aS 1), (1, aI d1), (4, aI 0), (5, aI d2)], [(1, oR s75 d0), (2, oP 1 (S_laws_markFeedbackS.hd us 0))]⟩ : St)) (show (x0 : List T75) = (mkAt (Sh.mk s75) (Sh.ct s75) x1 x0 (0)) from by first | with_reducible rfl | (first | exact mkAt_zero.symm | simp [ctL]) | rfl) (show (x1 : Int) = (x1 + ((ctL (Sh.ct s75) (List.take (0) x0) : Nat) : Int)) from by first | with_reducible rfl | (first | exact mkAt_zero.symm | simp [ctL]) | rfl) (show (0 : Int) = (((0) : Nat) : Int) from by first | with_reducible rfl | (first | exact mkAt_zero.symm | simp [ctL]) | rfl)) (by omega) ?_
 intro i a w hok0 h
 refine wp_seq (wp_seq ?_)
 refine at_regq [] { ts := [0, 1, 4, 5, 9], os := [1, 2] } [] gamOK hT h (by kernel_rfl) trivial fun a w h => then_normal ?_
 refine at_test (decide (((i : Nat) : Int) < ((List.length (mkAt (Sh.mk s75) (Sh.ct s75) x1 x0 i) : Nat) : Int))) h (by kernel_rfl) (fun h1 => ?_) (fun h1 => ?_)
 ·replace h1 : ((i : Nat) : Int) < ((List.length (mkAt (Sh.mk s75) (Sh.ct s75) x1 x0 i) : Nat) : Int) := of_decide_eq_true h1
  have hml : List.length (mkAt (Sh.mk s75) (Sh.ct s75) x1 x0 i) = List.length x0 := mkAt_len
  rw [hml] at h1
  have hat := ctL_at_le (c := Sh.ct s75) (xs := x0) (z := (0, (0, 0))) (i := i) (by omega)
  have hsu := ctL_take_succ (c := Sh.ct s75) (xs := x0) (z := (0, (0, 0))) (i := i) (by omega)
  have hci : Sh.ct s75 (x0.getD i (0, (0, 0))) = (1 + (1 + 1)) := rfl
  have hge : List.getD (mkAt (Sh.mk s75) (Sh.ct s75) x1 x0 i) i (0, (0, 0)) = (x0.getD i (0, (0, 0))) := mkAt_get (by omega)
  refine wp_skip (then_normal (wp_seq (wp_block (wp_seq ?_))))
  replace h := at_open (σ' := ⟨[(0, aS 1), (1, aI (x1 + ((ctL (Sh.ct s75) (List.take i x0) : Nat) : Int))), (4, aI 0), (5, aI ((i : Nat) : Int)), (9, aB (decide (((i : Nat) : Int) < ((List.length (mkAt (Sh.mk s75) (Sh.ct s75) x1 x0 i) : Nat) : Int))))], [(1, some (.op s75 (mkAt (Sh.mk s75) (Sh.ct s75) x1 x0 i) i [cI ((mkAt (Sh.mk s75) (Sh.ct s75) x1 x0 i).getD i (0, (0, 0))).1, cI ((mkAt (Sh.mk s75) (Sh.ct s75) x1 x0 i).getD i (0, (0, 0))).2.1, cI ((mkAt (Sh.mk s75) (Sh.ct s75) x1 x0 i).getD i (0, (0, 0))).2.2])), (2, oP 1 (S_laws_markFeedbackS.hd us 0))]⟩) (ps := [i < List.length (mkAt (Sh.mk s75) (Sh.ct s75) x1 x0 i)]) 1 i [] { ts := [0, 1, 4, 5, 9], os := [1, 2] } h (by kernel_rfl) ⟨(by first | omega | ((try simp only [hge, mkK]); omega) | (simp only [lsA, mkAt_len]; omega) | (simp; done) | (simp; omega)), trivial⟩
  refine at_regq [] { ts := [0, 1, 4, 5], os := [1, 2] } [(0 : Int) ≤ ((i : Nat) : Int) ∧ ((i : Nat) : Int) < ((List.length (mkAt (Sh.mk s75) (Sh.ct s75) x1 x0 i) : Nat) : Int), i = i] gamOK hT h (by kernel_rfl) ⟨(by refine ⟨?_, ?_⟩ <;> (first | omega | ((try simp only [hge, mkK]); omega) | (simp only [lsA, mkAt_len]; omega) | (simp; done) | (simp; omega))), rfl, trivial⟩ fun a w h => then_normal (wp_seq ?_)
  refine at_regq [{}, { nw := true }] { ts := [0, 1, 4, 5], os := [1, 2] } [I64 ((x1 + ((ctL (Sh.ct s75) (List.take i x0) : Nat) : Int)) + 1)] gamOK hT h (by kernel_rfl) ⟨⟨by first | omega | ((try simp only [hge, mkK]); omega) | (simp only [lsA, mkAt_len]; omega) | (simp; done) | (simp; omega), by first | omega | ((try simp only [hge, mkK]); omega) | (simp only [lsA, mkAt_len]; omega) | (simp; done) | (simp; omega)⟩, trivial⟩ fun a w h => then_normal (wp_seq ?_)
  refine at_regq [] { ts := [0, 1, 4, 5], os := [1, 2] } [(0 : Int) ≤ ((i : Nat) : Int) ∧ ((i : Nat) : Int) < ((List.length (mkAt (Sh.mk s75) (Sh.ct s75) x1 x0 i) : Nat) : Int), i = i] gamOK hT h (by kernel_rfl) ⟨(by refine ⟨?_, ?_⟩ <;> (first | omega | ((try simp only [hge, mkK]); omega) | (simp only [lsA, mkAt_len]; omega) | (simp; done) | (simp; omega))), rfl, trivial⟩ fun a w h => then_normal (wp_seq ?_)
  refine at_regq [{}, { nw := true }] { ts := [0, 1, 4, 5], os := [1, 2] } [I64 (((x1 + ((ctL (Sh.ct s75) (List.take i x0) : Nat) : Int)) + 1) + 1)] gamOK hT h (by kernel_rfl) ⟨⟨by first | omega | ((try simp only [hge, mkK]); omega) | (simp only [lsA, mkAt_len]; omega) | (simp; done) | (simp; omega), by first | omega | ((try simp only [hge, mkK]); omega) | (simp only [lsA, mkAt_len]; omega) | (simp; done) | (simp; omega)⟩, trivial⟩ fun a w h => then_normal (wp_seq ?_)
  refine at_regq [] { ts := [0, 1, 4, 5], os := [1, 2] } [(0 : Int) ≤ ((i : Nat) : Int) ∧ ((i : Nat) : Int) < ((List.length (mkAt (Sh.mk s75) (Sh.ct s75) x1 x0 i) : Nat) : Int), i = i] gamOK hT h (by kernel_rfl) ⟨(by refine ⟨?_, ?_⟩ <;> (first | omega | ((try simp only [hge, mkK]); omega) | (simp only [lsA, mkAt_len]; omega) | (simp; done) | (simp; omega))), rfl, trivial⟩ fun a w h => then_normal ?_
  refine at_regq [{}, { nw := true }] { ts := [0, 1, 4, 5], os := [1, 2] } [I64 ((((x1 + ((ctL (Sh.ct s75) (List.take i x0) : Nat) : Int)) + 1) + 1) + 1)] gamOK hT h (by kernel_rfl) ⟨⟨by first | omega | ((try simp only [hge, mkK]); omega) | (simp only [lsA, mkAt_len]; omega) | (simp; done) | (simp; omega), by first | omega | ((try simp only [hge, mkK]); omega) | (simp only [lsA, mkAt_len]; omega) | (simp; done) | (simp; omega)⟩, trivial⟩ fun a w h => in_normal (then_normal ?_)
  refine at_regq [{}, { nw := true }] { ts := [0, 1, 4, 5], os := [1, 2] } [I64 (((i : Nat) : Int) + 1)] gamOK hT h (by kernel_rfl) ⟨⟨by first | omega | ((try simp only [hge, mkK]); omega) | (simp only [lsA, mkAt_len]; omega) | (simp; done) | (simp; omega), by first | omega | ((try simp only [hge, mkK]); omega) | (simp only [lsA, mkAt_len]; omega) | (simp; done) | (simp; omega)⟩, trivial⟩ fun a w h => ?_
  replace h := at_shut (σ' := ⟨[(0, aS 1), (1, aI ((((x1 + ((ctL (Sh.ct s75) (List.take i x0) : Nat) : Int)) + 1) + 1) + 1)), (4, aI 0), (5, aI (((i : Nat) : Int) + 1))], [(1, oR s75 (List.set (mkAt (Sh.mk s75) (Sh.ct s75) x1 x0 i) i ((x1 + ((ctL (Sh.ct s75) (List.take i x0) : Nat) : Int)), ((x1 + ((ctL (Sh.ct s75) (List.take i x0) : Nat) : Int)) + 1, ((x1 + ((ctL (Sh.ct s75) (List.take i x0) : Nat) : Int)) + 1) + 1)))), (2, oP 1 (S_laws_markFeedbackS.hd us 0))]⟩) (ps := []) 1 { ts := [0, 1, 4, 5], os := [1, 2] } h (by kernel_rfl) trivial
  replace h := at_out (σ' := ⟨[(0, aS 1), (1, aI ((((x1 + ((ctL (Sh.ct s75) (List.take i x0) : Nat) : Int)) + 1) + 1) + 1)), (4, aI 0), (5, aI (((i : Nat) : Int) + 1))], [(1, oR s75 (List.set (mkAt (Sh.mk s75) (Sh.ct s75) x1 x0 i) i ((x1 + ((ctL (Sh.ct s75) (List.take i x0) : Nat) : Int)), ((x1 + ((ctL (Sh.ct s75) (List.take i x0) : Nat) : Int)) + 1, ((x1 + ((ctL (Sh.ct s75) (List.take i x0) : Nat) : Int)) + 1) + 1)))), (2, oP 1 (S_laws_markFeedbackS.hd us 0))]⟩) { ts := [0, 1, 4, 5], os := [1, 2] } h (by kernel_rfl)
  skip
  exact ⟨i + 1, at_eq h (st_congr3 (fun (d0 : List T75) (d1 : Int) (d2 : Int) => (⟨[(0, aS 1), (1, aI d1), (4, aI 0), (5, aI d2)], [(1, oR s75 d0), (2, oP 1 (S_laws_markFeedbackS.hd us 0))]⟩ : St)) (show ((List.set (mkAt (Sh.mk s75) (Sh.ct s75) x1 x0 i) i ((x1 + ((ctL (Sh.ct s75) (List.take i x0) : Nat) : Int)), ((x1 + ((ctL (Sh.ct s75) (List.take i x0) : Nat) : Int)) + 1, ((x1 + ((ctL (Sh.ct s75) (List.take i x0) : Nat) : Int)) + 1) + 1))) : List T75) = (mkAt (Sh.mk s75) (Sh.ct s75) x1 x0 (i + 1)) from by first | with_reducible rfl | (refine mkAt_set' (z := (0, (0, 0))) (by omega) ?_; first | (simp only [hge, mkK]; done) | ((try simp only [hge, mkK]); show _ = Sh.mk s75 (x0.getD i (0, (0, 0))) _; exact (Prod.ext (by show (_ : Int) = _; first | rfl | omega) (Prod.ext (by show (_ : Int) = _; first | rfl | omega) (by show (_ : Int) = _; first | rfl | omega))))) | rfl) (show ((((x1 + ((ctL (Sh.ct s75) (List.take i x0) : Nat) : Int)) + 1) + 1) + 1 : Int) = (x1 + ((ctL (Sh.ct s75) (List.take (i + 1) x0) : Nat) : Int)) from by first | with_reducible rfl | (((try simp only [hge, mkK]); omega)) | rfl) (show (((i : Nat) : Int) + 1 : Int) = (((i + 1) : Nat) : Int) from by first | with_reducible rfl | (omega) | rfl)), (by first | omega | (refine ⟨?_, ?_⟩ <;> omega)), (by omega)⟩
 ·replace h1 : ¬ (((i : Nat) : Int) < ((List.length (mkAt (Sh.mk s75) (Sh.ct s75) x1 x0 i) : Nat) : Int)) := of_decide_eq_false h1
  have hml : List.length (mkAt (Sh.mk s75) (Sh.ct s75) x1 x0 i) = List.length x0 := mkAt_len
  rw [hml] at h1
  refine wp_exit (then_exit (then_exit (in_hit (then_normal (wp_seq ?_)))))
  refine at_regq [] { ts := [4], os := [1, 2] } [] gamOK hT h (by kernel_rfl) trivial fun a w h => then_normal (wp_ret ?_)
  exact at_returnI (S := S_laws_markFeedbackS) (x := (x0, x1, ())) [1] [2] ((mkAt (Sh.mk s75) (Sh.ct s75) x1 x0 i), (x1, ())) (some ((x1 + ((ctL (Sh.ct s75) (List.take i x0) : Nat) : Int)), ())) [S_laws_markFeedbackS.hd us 0 = S_laws_markFeedbackS.hd us 0] hio h (by kernel_rfl) ⟨rfl, trivial⟩ (by first | rfl | exact congrArg (fun (z : (List T75)) => (z, (x1, ()))) (show ((mkAt (Sh.mk s75) (Sh.ct s75) x1 x0 i) : (List T75)) = (Sh.mk s27) x0 x1 from by exact mkAt_all (by omega))) (fun z e => (Option.some.inj e) ▸ (congrArg (fun z => (z, ())) (show ((x1 + ((ctL (Sh.ct s75) (List.take i x0) : Nat) : Int))) = (mkK s27) x0 x1 from by (unfold mkK; rw [take_all (by omega)]; rfl))))

def S_laws_markFeedbackTable : Sum := { fid := 27, dom := [s29, (.int 3)], cod := [(.int 3)], dp := true, fz := false, pre := fun x => (pMkT s29) x.1 x.2.1, g := fun x => (((mkKT s29) x.1 x.2.1), ()), kinds := [.io, .rd], upd := fun x => ((Sh.mkT s29) x.1 x.2.1, (x.2.1, ())) }
def S_laws_markFeedbackTable_tab : List (Nat × Sum) := [(45, S_laws_markFeedbackS)]
theorem S_laws_markFeedbackTable_ok : FnOK Try.prog 27 S_laws_markFeedbackTable := by
 refine at_enterI 10 [1] [2] (fun us x => ⟨[(0, aG [.sl 1]), (1, aI x.2.1)], [(1, oR s75 x.1), (2, oP 1 (S_laws_markFeedbackTable.hd us 0))]⟩) Try.func27 rfl (by kernel_rfl) (fun us x => rfl) ?_
 rintro w0 Z0 us ⟨x0, x1, u⟩ L a w
 revert x0 x1
 intro (x0 : (List T75)) (x1 : Int) hio hpre hlens h
 replace h : At w0 Z0 L 10 ⟨[(0, aG [.sl 1]), (1, aI x1)], [(1, oR s75 x0), (2, oP 1 (S_laws_markFeedbackTable.hd us 0))]⟩ a w := h
 replace hpre : (pMkT s29) x0 x1 := hpre
 have hl1 : List.length x0 ≤ 9223372036854775807 := hlens.1.1
 have hT : TabOK Try.prog S_laws_markFeedbackTable_tab := (.cons S_laws_markFeedbackS_ok .nil)
 have hp : 0 ≤ x1 ∧ x1 + ((Sh.ctT s29 x0 : Nat) : Int) ≤ 4611686018427387904 := hpre
 have hct0 : Sh.ctT s29 x0 = (Sh.ct s27 x0) := rfl
 refine wp_seq ?_
 refine at_regq [{ ids := [3] }] { ts := [1, 2, 4], os := [1, 2, 3] } [] gamOK hT h (by kernel_rfl) trivial fun a w h => then_normal (wp_seq ?_)
 refine at_regq [] { ts := [1, 4], os := [1, 2] } [(pMk s27) x0 x1] gamOK hT h (by kernel_rfl) ⟨(by (first | (show (0 : Int) ≤ _ ∧ _ + ((Sh.ct _ _ : Nat) : Int) ≤ (4611686018427387904 : Int); (try simp only [mkK, mkKT]); constructor <;> omega) | (show (0 : Int) ≤ _ ∧ _ + ((Sh.ctT _ _ : Nat) : Int) ≤ (4611686018427387904 : Int); (try simp only [mkK, mkKT]); constructor <;> omega))), trivial⟩ fun a w h => then_normal (wp_seq ?_)
 refine at_regq [] { ts := [4], os := [1, 2] } [] gamOK hT h (by kernel_rfl) trivial fun a w h => then_normal (wp_ret ?_)
 exact at_returnI (S := S_laws_markFeedbackTable) (x := (x0, x1, ())) [1] [2] (((Sh.mk s27) x0 x1), (x1, ())) (some (((mkK s27) x0 x1), ())) [S_laws_markFeedbackTable.hd us 0 = S_laws_markFeedbackTable.hd us 0] hio h (by kernel_rfl) ⟨rfl, trivial⟩ (by first | rfl | exact congrArg (fun (z : (List T75)) => (z, (x1, ()))) (show (((Sh.mk s27) x0 x1) : (List T75)) = (Sh.mkT s29) x0 x1 from by show _ = Sh.mkT s29 x0 x1; exact (congrArg (fun k => Sh.mk s27 x0 k) (show (_ : Int) = x1 from by first | rfl | ((try simp only [mkK, mkKT]); omega))))) (fun z e => (Option.some.inj e) ▸ (congrArg (fun z => (z, ())) (show (((mkK s27) x0 x1)) = (mkKT s29) x0 x1 from by ((try simp only [mkK, mkKT]); omega))))

def S_laws_markIntSS : Sum := { fid := 43, dom := [s45, (.int 3)], cod := [(.int 3)], dp := true, fz := false, pre := fun x => (pMk s45) x.1 x.2.1, g := fun x => (((mkK s45) x.1 x.2.1), ()), kinds := [.io, .rd], upd := fun x => ((Sh.mk s45) x.1 x.2.1, (x.2.1, ())) }
def S_laws_markIntSS_tab : List (Nat × Sum) := [(55, S_laws_markIntS)]
theorem S_laws_markIntSS_ok : FnOK Try.prog 43 S_laws_markIntSS := by
 refine at_enterI 19 [1] [2] (fun us x => ⟨[(0, aS 1), (1, aI x.2.1)], [(1, oR s61 x.1), (2, oP 1 (S_laws_markIntSS.hd us 0))]⟩) Try.func43 rfl (by kernel_rfl) (fun us x => rfl) ?_
 rintro w0 Z0 us ⟨x0, x1, u⟩ L a w
 revert x0 x1
 intro (x0 : (List (List Int))) (x1 : Int) hio hpre hlens h
 replace h : At w0 Z0 L 19 ⟨[(0, aS 1), (1, aI x1)], [(1, oR s61 x0), (2, oP 1 (S_laws_markIntSS.hd us 0))]⟩ a w := h
 replace hpre : (pMk s45) x0 x1 := hpre
 have hl1 : List.length x0 ≤ 9223372036854775807 := hlens.1.1
 have hT : TabOK Try.prog S_laws_markIntSS_tab := (.cons S_laws_markIntS_ok .nil)
 have hp : 0 ≤ x1 ∧ x1 + ((Sh.ct s45 x0 : Nat) : Int) ≤ 4611686018427387904 := hpre
 have hct0 : Sh.ct s45 x0 = ctL (Sh.ct s61) x0 := rfl
 refine wp_seq ?_
 refine at_regq [] { ts := [0, 1, 4], os := [1, 2] } [] gamOK hT h (by kernel_rfl) trivial fun a w h => then_normal (wp_seq (wp_seq ?_))
 refine at_regq [] { ts := [0, 1, 4, 5], os := [1, 2] } [] gamOK hT h (by kernel_rfl) trivial fun a w h => then_normal (wp_block ?_)
 replace h := at_out (σ' := ⟨[(0, aS 1), (1, aI x1), (4, aI 0), (5, aI 0)], [(1, oR s61 x0), (2, oP 1 (S_laws_markIntSS.hd us 0))]⟩) { ts := [0, 1, 4, 5], os := [1, 2] } h (by kernel_rfl)
 refine at_loop (fun i : Nat => (⟨[(0, aS 1), (1, aI (x1 + ((ctL (Sh.ct s61) (List.take i x0) : Nat) : Int))), (4, aI 0), (5, aI ((i : Nat) : Int))], [(1, oR s61 (mkAt (Sh.mk s61) (Sh.ct s61) x1 x0 i)), (2, oP 1 (S_laws_markIntSS.hd us 0))]⟩ : St)) (fun i => i ≤ List.length x0) (fun i => List.length x0 - i) (0) h (st_congr3 (fun (d0 : List (List Int)) (d1 : Int) (d2 : Int) => (⟨[(0, aS 1), (1, aI d1), (4, aI 0), (5, aI d2)], [(1, oR s61 d0), (2, oP 1 (S_laws_markIntSS.hd us 0))]⟩ : St)) (show (x0 : List (List Int)) = (mkAt (Sh.mk s61) (Sh.ct s61) x1 x0 (0)) from by first | with_reducible rfl | (first | exact mkAt_zero.symm | simp [ctL]) | rfl) (show (x1 : Int) = (x1 + ((ctL (Sh.ct s61) (List.take (0) x0) : Nat) : Int)) from by first | with_reducible rfl | (first | exact mkAt_zero.symm | simp [ctL]) | rfl) (show (0 : Int) = (((0) : Nat) : Int) from by first | with_reducible rfl | (first | exact mkAt_zero.symm | simp [ctL]) | rfl)) (by omega) ?_
 intro i a w hok0 h
 refine wp_seq (wp_seq ?_)
 refine at_regq [] { ts := [0, 1, 4, 5, 9], os := [1, 2] } [] gamOK hT h (by kernel_rfl) trivial fun a w h => then_normal ?_
 refine at_test (decide (((i : Nat) : Int) < ((List.length (mkAt (Sh.mk s61) (Sh.ct s61) x1 x0 i) : Nat) : Int))) h (by kernel_rfl) (fun h1 => ?_) (fun h1 => ?_)
 ·replace h1 : ((i : Nat) : Int) < ((List.length (mkAt (Sh.mk s61) (Sh.ct s61) x1 x0 i) : Nat) : Int) := of_decide_eq_true h1
  have hml : List.length (mkAt (Sh.mk s61) (Sh.ct s61) x1 x0 i) = List.length x0 := mkAt_len
  rw [hml] at h1
  have hat := ctL_at_le (c := Sh.ct s61) (xs := x0) (z := []) (i := i) (by omega)
  have hsu := ctL_take_succ (c := Sh.ct s61) (xs := x0) (z := []) (i := i) (by omega)
  have hci : Sh.ct s61 (x0.getD i []) = (Sh.ct s61 (x0.getD i [])) := rfl
  have hge : List.getD (mkAt (Sh.mk s61) (Sh.ct s61) x1 x0 i) i [] = (x0.getD i []) := mkAt_get (by omega)
  refine wp_skip (then_normal (wp_seq (wp_block ?_)))
  replace h := at_open (σ' := ⟨[(0, aS 1), (1, aI (x1 + ((ctL (Sh.ct s61) (List.take i x0) : Nat) : Int))), (4, aI 0), (5, aI ((i : Nat) : Int)), (9, aB (decide (((i : Nat) : Int) < ((List.length (mkAt (Sh.mk s61) (Sh.ct s61) x1 x0 i) : Nat) : Int))))], [(1, some (.op s61 (mkAt (Sh.mk s61) (Sh.ct s61) x1 x0 i) i [.sl 3])), (2, oP 1 (S_laws_markIntSS.hd us 0)), (3, oR (.int 3) ((mkAt (Sh.mk s61) (Sh.ct s61) x1 x0 i).getD i []))]⟩) (ps := [i < List.length (mkAt (Sh.mk s61) (Sh.ct s61) x1 x0 i)]) 1 i [3] { ts := [0, 1, 4, 5, 9], os := [1, 2, 3] } h (by kernel_rfl) ⟨(by first | omega | ((try simp only [hge, mkK]); omega) | (simp only [lsA, mkAt_len]; omega) | (simp; done) | (simp; omega)), trivial⟩
  refine at_regq [] { ts := [0, 1, 4, 5], os := [1, 2, 3] } [(0 : Int) ≤ ((i : Nat) : Int) ∧ ((i : Nat) : Int) < ((List.length (mkAt (Sh.mk s61) (Sh.ct s61) x1 x0 i) : Nat) : Int), i = i, (pMk s61) ((mkAt (Sh.mk s61) (Sh.ct s61) x1 x0 i).getD i []) (x1 + ((ctL (Sh.ct s61) (List.take i x0) : Nat) : Int))] gamOK hT h (by kernel_rfl) ⟨(by refine ⟨?_, ?_⟩ <;> (first | omega | ((try simp only [hge, mkK]); omega) | (simp only [lsA, mkAt_len]; omega) | (simp; done) | (simp; omega))), rfl, (by (show (0 : Int) ≤ _ ∧ _ + ((Sh.ct _ _ : Nat) : Int) ≤ (4611686018427387904 : Int); (try simp only [hge, mkK]); constructor <;> omega)), trivial⟩ fun a w h => in_normal (then_normal ?_)
  refine at_regq [{}, { nw := true }] { ts := [0, 1, 4, 5], os := [1, 2, 3] } [I64 (((i : Nat) : Int) + 1)] gamOK hT h (by kernel_rfl) ⟨⟨by first | omega | ((try simp only [hge, mkK]); omega) | (simp only [lsA, mkAt_len]; omega) | (simp; done) | (simp; omega), by first | omega | ((try simp only [hge, mkK]); omega) | (simp only [lsA, mkAt_len]; omega) | (simp; done) | (simp; omega)⟩, trivial⟩ fun a w h => ?_
  replace h := at_shut (σ' := ⟨[(0, aS 1), (1, aI ((mkK s61) ((mkAt (Sh.mk s61) (Sh.ct s61) x1 x0 i).getD i []) (x1 + ((ctL (Sh.ct s61) (List.take i x0) : Nat) : Int)))), (4, aI 0), (5, aI (((i : Nat) : Int) + 1))], [(1, oR s61 (List.set (mkAt (Sh.mk s61) (Sh.ct s61) x1 x0 i) i ((Sh.mk s61) ((mkAt (Sh.mk s61) (Sh.ct s61) x1 x0 i).getD i []) (x1 + ((ctL (Sh.ct s61) (List.take i x0) : Nat) : Int))))), (2, oP 1 (S_laws_markIntSS.hd us 0))]⟩) (ps := []) 1 { ts := [0, 1, 4, 5], os := [1, 2] } h (by kernel_rfl) trivial
  replace h := at_out (σ' := ⟨[(0, aS 1), (1, aI ((mkK s61) ((mkAt (Sh.mk s61) (Sh.ct s61) x1 x0 i).getD i []) (x1 + ((ctL (Sh.ct s61) (List.take i x0) : Nat) : Int)))), (4, aI 0), (5, aI (((i : Nat) : Int) + 1))], [(1, oR s61 (List.set (mkAt (Sh.mk s61) (Sh.ct s61) x1 x0 i) i ((Sh.mk s61) ((mkAt (Sh.mk s61) (Sh.ct s61) x1 x0 i).getD i []) (x1 + ((ctL (Sh.ct s61) (List.take i x0) : Nat) : Int))))), (2, oP 1 (S_laws_markIntSS.hd us 0))]⟩) { ts := [0, 1, 4, 5], os := [1, 2] } h (by kernel_rfl)
  skip
  exact ⟨i + 1, at_eq h (st_congr3 (fun (d0 : List (List Int)) (d1 : Int) (d2 : Int) => (⟨[(0, aS 1), (1, aI d1), (4, aI 0), (5, aI d2)], [(1, oR s61 d0), (2, oP 1 (S_laws_markIntSS.hd us 0))]⟩ : St)) (show ((List.set (mkAt (Sh.mk s61) (Sh.ct s61) x1 x0 i) i ((Sh.mk s61) ((mkAt (Sh.mk s61) (Sh.ct s61) x1 x0 i).getD i []) (x1 + ((ctL (Sh.ct s61) (List.take i x0) : Nat) : Int)))) : List (List Int)) = (mkAt (Sh.mk s61) (Sh.ct s61) x1 x0 (i + 1)) from by first | with_reducible rfl | (refine mkAt_set' (z := []) (by omega) ?_; first | (simp only [hge, mkK]; done) | ((try simp only [hge, mkK]); show _ = Sh.mk s61 (x0.getD i []) _; exact (congrArg (fun k => Sh.mk s61 (x0.getD i []) k) (by first | rfl | omega)))) | rfl) (show (((mkK s61) ((mkAt (Sh.mk s61) (Sh.ct s61) x1 x0 i).getD i []) (x1 + ((ctL (Sh.ct s61) (List.take i x0) : Nat) : Int))) : Int) = (x1 + ((ctL (Sh.ct s61) (List.take (i + 1) x0) : Nat) : Int)) from by first | with_reducible rfl | (((try simp only [hge, mkK]); omega)) | rfl) (show (((i : Nat) : Int) + 1 : Int) = (((i + 1) : Nat) : Int) from by first | with_reducible rfl | (omega) | rfl)), (by first | omega | (refine ⟨?_, ?_⟩ <;> omega)), (by omega)⟩
 ·replace h1 : ¬ (((i : Nat) : Int) < ((List.length (mkAt (Sh.mk s61) (Sh.ct s61) x1 x0 i) : Nat) : Int)) := of_decide_eq_false h1
  have hml : List.length (mkAt (Sh.mk s61) (Sh.ct s61) x1 x0 i) = List.length x0 := mkAt_len
  rw [hml] at h1
  refine wp_exit (then_exit (then_exit (in_hit (then_normal (wp_seq ?_)))))
  refine at_regq [] { ts := [4], os := [1, 2] } [] gamOK hT h (by kernel_rfl) trivial fun a w h => then_normal (wp_ret ?_)
  exact at_returnI (S := S_laws_markIntSS) (x := (x0, x1, ())) [1] [2] ((mkAt (Sh.mk s61) (Sh.ct s61) x1 x0 i), (x1, ())) (some ((x1 + ((ctL (Sh.ct s61) (List.take i x0) : Nat) : Int)), ())) [S_laws_markIntSS.hd us 0 = S_laws_markIntSS.hd us 0] hio h (by kernel_rfl) ⟨rfl, trivial⟩ (by first | rfl | exact congrArg (fun (z : (List (List Int))) => (z, (x1, ()))) (show ((mkAt (Sh.mk s61) (Sh.ct s61) x1 x0 i) : (List (List Int))) = (Sh.mk s45) x0 x1 from by exact mkAt_all (by omega))) (fun z e => (Option.some.inj e) ▸ (congrArg (fun z => (z, ())) (show ((x1 + ((ctL (Sh.ct s61) (List.take i x0) : Nat) : Int))) = (mkK s45) x0 x1 from by (unfold mkK; rw [take_all (by omega)]; rfl))))

def S_laws_markGenerationS : Sum := { fid := 25, dom := [s23, (.int 3)], cod := [(.int 3)], dp := true, fz := false, pre := fun x => (pMk s23) x.1 x.2.1, g := fun x => (((mkK s23) x.1 x.2.1), ()), kinds := [.io, .rd], upd := fun x => ((Sh.mk s23) x.1 x.2.1, (x.2.1, ())) }
def S_laws_markGenerationS_tab : List (Nat × Sum) := [(43, S_laws_markIntSS)]
theorem S_laws_markGenerationS_ok : FnOK Try.prog 25 S_laws_markGenerationS := by
 refine at_enterI 27 [1] [2] (fun us x => ⟨[(0, aS 1), (1, aI x.2.1)], [(1, oR s47 x.1), (2, oP 1 (S_laws_markGenerationS.hd us 0))]⟩) Try.func25 rfl (by kernel_rfl) (fun us x => rfl) ?_
 rintro w0 Z0 us ⟨x0, x1, u⟩ L a w
 revert x0 x1
 intro (x0 : (List T47)) (x1 : Int) hio hpre hlens h
 replace h : At w0 Z0 L 27 ⟨[(0, aS 1), (1, aI x1)], [(1, oR s47 x0), (2, oP 1 (S_laws_markGenerationS.hd us 0))]⟩ a w := h
 replace hpre : (pMk s23) x0 x1 := hpre
 have hl1 : List.length x0 ≤ 9223372036854775807 := hlens.1.1
 have hT : TabOK Try.prog S_laws_markGenerationS_tab := (.cons S_laws_markIntSS_ok .nil)
 have hp : 0 ≤ x1 ∧ x1 + ((Sh.ct s23 x0 : Nat) : Int) ≤ 4611686018427387904 := hpre
 have hct0 : Sh.ct s23 x0 = ctL (Sh.ct s47) x0 := rfl
 refine wp_seq ?_
 refine at_regq [] { ts := [0, 1, 4], os := [1, 2] } [] gamOK hT h (by kernel_rfl) trivial fun a w h => then_normal (wp_seq (wp_seq ?_))
 refine at_regq [] { ts := [0, 1, 4, 5], os := [1, 2] } [] gamOK hT h (by kernel_rfl) trivial fun a w h => then_normal (wp_block ?_)
 replace h := at_out (σ' := ⟨[(0, aS 1), (1, aI x1), (4, aI 0), (5, aI 0)], [(1, oR s47 x0), (2, oP 1 (S_laws_markGenerationS.hd us 0))]⟩) { ts := [0, 1, 4, 5], os := [1, 2] } h (by kernel_rfl)
 refine at_loop (fun i : Nat => (⟨[(0, aS 1), (1, aI (x1 + ((ctL (Sh.ct s47) (List.take i x0) : Nat) : Int))), (4, aI 0), (5, aI ((i : Nat) : Int))], [(1, oR s47 (mkAt (Sh.mk s47) (Sh.ct s47) x1 x0 i)), (2, oP 1 (S_laws_markGenerationS.hd us 0))]⟩ : St)) (fun i => i ≤ List.length x0) (fun i => List.length x0 - i) (0) h (st_congr3 (fun (d0 : List T47) (d1 : Int) (d2 : Int) => (⟨[(0, aS 1), (1, aI d1), (4, aI 0), (5, aI d2)], [(1, oR s47 d0), (2, oP 1 (S_laws_markGenerationS.hd us 0))]⟩ : St)) (show (x0 : List T47) = (mkAt (Sh.mk s47) (Sh.ct s47) x1 x0 (0)) from by first | with_reducible rfl | (first | exact mkAt_zero.symm | simp [ctL]) | rfl) (show (x1 : Int) = (x1 + ((ctL (Sh.ct s47) (List.take (0) x0) : Nat) : Int)) from by first | with_reducible rfl | (first | exact mkAt_zero.symm | simp [ctL]) | rfl) (show (0 : Int) = (((0) : Nat) : Int) from by first | with_reducible rfl | (first | exact mkAt_zero.symm | simp [ctL]) | rfl)) (by omega) ?_
 intro i a w hok0 h
 refine wp_seq (wp_seq ?_)
 refine at_regq [] { ts := [0, 1, 4, 5, 9], os := [1, 2] } [] gamOK hT h (by kernel_rfl) trivial fun a w h => then_normal ?_
 refine at_test (decide (((i : Nat) : Int) < ((List.length (mkAt (Sh.mk s47) (Sh.ct s47) x1 x0 i) : Nat) : Int))) h (by kernel_rfl) (fun h1 => ?_) (fun h1 => ?_)
 ·replace h1 : ((i : Nat) : Int) < ((List.length (mkAt (Sh.mk s47) (Sh.ct s47) x1 x0 i) : Nat) : Int) := of_decide_eq_true h1
  have hml : List.length (mkAt (Sh.mk s47) (Sh.ct s47) x1 x0 i) = List.length x0 := mkAt_len
  rw [hml] at h1
  have hat := ctL_at_le (c := Sh.ct s47) (xs := x0) (z := (0, [])) (i := i) (by omega)
  have hsu := ctL_take_succ (c := Sh.ct s47) (xs := x0) (z := (0, [])) (i := i) (by omega)
  have hci : Sh.ct s47 (x0.getD i (0, [])) = (1 + (Sh.ct s45 (x0.getD i (0, [])).2)) := rfl
  have hge : List.getD (mkAt (Sh.mk s47) (Sh.ct s47) x1 x0 i) i (0, []) = (x0.getD i (0, [])) := mkAt_get (by omega)
  refine wp_skip (then_normal (wp_seq (wp_block (wp_seq ?_))))
  replace h := at_open (σ' := ⟨[(0, aS 1), (1, aI (x1 + ((ctL (Sh.ct s47) (List.take i x0) : Nat) : Int))), (4, aI 0), (5, aI ((i : Nat) : Int)), (9, aB (decide (((i : Nat) : Int) < ((List.length (mkAt (Sh.mk s47) (Sh.ct s47) x1 x0 i) : Nat) : Int))))], [(1, some (.op s47 (mkAt (Sh.mk s47) (Sh.ct s47) x1 x0 i) i [cI ((mkAt (Sh.mk s47) (Sh.ct s47) x1 x0 i).getD i (0, [])).1, .sl 3])), (2, oP 1 (S_laws_markGenerationS.hd us 0)), (3, oR s61 ((mkAt (Sh.mk s47) (Sh.ct s47) x1 x0 i).getD i (0, [])).2)]⟩) (ps := [i < List.length (mkAt (Sh.mk s47) (Sh.ct s47) x1 x0 i)]) 1 i [3] { ts := [0, 1, 4, 5, 9], os := [1, 2, 3] } h (by kernel_rfl) ⟨(by first | omega | ((try simp only [hge, mkK]); omega) | (simp only [lsA, mkAt_len]; omega) | (simp; done) | (simp; omega)), trivial⟩
  refine at_regq [] { ts := [0, 1, 4, 5], os := [1, 2, 3] } [(0 : Int) ≤ ((i : Nat) : Int) ∧ ((i : Nat) : Int) < ((List.length (mkAt (Sh.mk s47) (Sh.ct s47) x1 x0 i) : Nat) : Int), i = i] gamOK hT h (by kernel_rfl) ⟨(by refine ⟨?_, ?_⟩ <;> (first | omega | ((try simp only [hge, mkK]); omega) | (simp only [lsA, mkAt_len]; omega) | (simp; done) | (simp; omega))), rfl, trivial⟩ fun a w h => then_normal (wp_seq ?_)
  refine at_regq [{}, { nw := true }] { ts := [0, 1, 4, 5], os := [1, 2, 3] } [I64 ((x1 + ((ctL (Sh.ct s47) (List.take i x0) : Nat) : Int)) + 1)] gamOK hT h (by kernel_rfl) ⟨⟨by first | omega | ((try simp only [hge, mkK]); omega) | (simp only [lsA, mkAt_len]; omega) | (simp; done) | (simp; omega), by first | omega | ((try simp only [hge, mkK]); omega) | (simp only [lsA, mkAt_len]; omega) | (simp; done) | (simp; omega)⟩, trivial⟩ fun a w h => then_normal ?_
  refine at_regq [] { ts := [0, 1, 4, 5], os := [1, 2, 3] } [(0 : Int) ≤ ((i : Nat) : Int) ∧ ((i : Nat) : Int) < ((List.length (mkAt (Sh.mk s47) (Sh.ct s47) x1 x0 i) : Nat) : Int), i = i, (pMk s45) ((mkAt (Sh.mk s47) (Sh.ct s47) x1 x0 i).getD i (0, [])).2 ((x1 + ((ctL (Sh.ct s47) (List.take i x0) : Nat) : Int)) + 1)] gamOK hT h (by kernel_rfl) ⟨(by refine ⟨?_, ?_⟩ <;> (first | omega | ((try simp only [hge, mkK]); omega) | (simp only [lsA, mkAt_len]; omega) | (simp; done) | (simp; omega))), rfl, (by (show (0 : Int) ≤ _ ∧ _ + ((Sh.ct _ _ : Nat) : Int) ≤ (4611686018427387904 : Int); (try simp only [hge, mkK]); constructor <;> omega)), trivial⟩ fun a w h => in_normal (then_normal ?_)
  refine at_regq [{}, { nw := true }] { ts := [0, 1, 4, 5], os := [1, 2, 3] } [I64 (((i : Nat) : Int) + 1)] gamOK hT h (by kernel_rfl) ⟨⟨by first | omega | ((try simp only [hge, mkK]); omega) | (simp only [lsA, mkAt_len]; omega) | (simp; done) | (simp; omega), by first | omega | ((try simp only [hge, mkK]); omega) | (simp only [lsA, mkAt_len]; omega) | (simp; done) | (simp; omega)⟩, trivial⟩ fun a w h => ?_
  replace h := at_shut (σ' := ⟨[(0, aS 1), (1, aI ((mkK s45) ((mkAt (Sh.mk s47) (Sh.ct s47) x1 x0 i).getD i (0, [])).2 ((x1 + ((ctL (Sh.ct s47) (List.take i x0) : Nat) : Int)) + 1))), (4, aI 0), (5, aI (((i : Nat) : Int) + 1))], [(1, oR s47 (List.set (mkAt (Sh.mk s47) (Sh.ct s47) x1 x0 i) i ((x1 + ((ctL (Sh.ct s47) (List.take i x0) : Nat) : Int)), ((Sh.mk s45) ((mkAt (Sh.mk s47) (Sh.ct s47) x1 x0 i).getD i (0, [])).2 ((x1 + ((ctL (Sh.ct s47) (List.take i x0) : Nat) : Int)) + 1))))), (2, oP 1 (S_laws_markGenerationS.hd us 0))]⟩) (ps := []) 1 { ts := [0, 1, 4, 5], os := [1, 2] } h (by kernel_rfl) trivial
  replace h := at_out (σ' := ⟨[(0, aS 1), (1, aI ((mkK s45) ((mkAt (Sh.mk s47) (Sh.ct s47) x1 x0 i).getD i (0, [])).2 ((x1 + ((ctL (Sh.ct s47) (List.take i x0) : Nat) : Int)) + 1))), (4, aI 0), (5, aI (((i : Nat) : Int) + 1))], [(1, oR s47 (List.set (mkAt (Sh.mk s47) (Sh.ct s47) x1 x0 i) i ((x1 + ((ctL (Sh.ct s47) (List.take i x0) : Nat) : Int)), ((Sh.mk s45) ((mkAt (Sh.mk s47) (Sh.ct s47) x1 x0 i).getD i (0, [])).2 ((x1 + ((ctL (Sh.ct s47) (List.take i x0) : Nat) : Int)) + 1))))), (2, oP 1 (S_laws_markGenerationS.hd us 0))]⟩) { ts := [0, 1, 4, 5], os := [1, 2] } h (by kernel_rfl)
  skip
  exact ⟨i + 1, at_eq h (st_congr3 (fun (d0 : List T47) (d1 : Int) (d2 : Int) => (⟨[(0, aS 1), (1, aI d1), (4, aI 0), (5, aI d2)], [(1, oR s47 d0), (2, oP 1 (S_laws_markGenerationS.hd us 0))]⟩ : St)) (show ((List.set (mkAt (Sh.mk s47) (Sh.ct s47) x1 x0 i) i ((x1 + ((ctL (Sh.ct s47) (List.take i x0) : Nat) : Int)), ((Sh.mk s45) ((mkAt (Sh.mk s47) (Sh.ct s47) x1 x0 i).getD i (0, [])).2 ((x1 + ((ctL (Sh.ct s47) (List.take i x0) : Nat) : Int)) + 1)))) : List T47) = (mkAt (Sh.mk s47) (Sh.ct s47) x1 x0 (i + 1)) from by first | with_reducible rfl | (refine mkAt_set' (z := (0, [])) (by omega) ?_; first | (simp only [hge, mkK]; done) | ((try simp only [hge, mkK]); show _ = Sh.mk s47 (x0.getD i (0, [])) _; exact (Prod.ext (by show (_ : Int) = _; first | rfl | omega) (congrArg (fun k => Sh.mk s45 (x0.getD i (0, [])).2 k) (by first | rfl | omega))))) | rfl) (show (((mkK s45) ((mkAt (Sh.mk s47) (Sh.ct s47) x1 x0 i).getD i (0, [])).2 ((x1 + ((ctL (Sh.ct s47) (List.take i x0) : Nat) : Int)) + 1)) : Int) = (x1 + ((ctL (Sh.ct s47) (List.take (i + 1) x0) : Nat) : Int)) from by first | with_reducible rfl | (((try simp only [hge, mkK]); omega)) | rfl) (show (((i : Nat) : Int) + 1 : Int) = (((i + 1) : Nat) : Int) from by first | with_reducible rfl | (omega) | rfl)), (by first | omega | (refine ⟨?_, ?_⟩ <;> omega)), (by omega)⟩
 ·replace h1 : ¬ (((i : Nat) : Int) < ((List.length (mkAt (Sh.mk s47) (Sh.ct s47) x1 x0 i) : Nat) : Int)) := of_decide_eq_false h1
  have hml : List.length (mkAt (Sh.mk s47) (Sh.ct s47) x1 x0 i) = List.length x0 := mkAt_len
  rw [hml] at h1
  refine wp_exit (then_exit (then_exit (in_hit (then_normal (wp_seq ?_)))))
  refine at_regq [] { ts := [4], os := [1, 2] } [] gamOK hT h (by kernel_rfl) trivial fun a w h => then_normal (wp_ret ?_)
  exact at_returnI (S := S_laws_markGenerationS) (x := (x0, x1, ())) [1] [2] ((mkAt (Sh.mk s47) (Sh.ct s47) x1 x0 i), (x1, ())) (some ((x1 + ((ctL (Sh.ct s47) (List.take i x0) : Nat) : Int)), ())) [S_laws_markGenerationS.hd us 0 = S_laws_markGenerationS.hd us 0] hio h (by kernel_rfl) ⟨rfl, trivial⟩ (by first | rfl | exact congrArg (fun (z : (List T47)) => (z, (x1, ()))) (show ((mkAt (Sh.mk s47) (Sh.ct s47) x1 x0 i) : (List T47)) = (Sh.mk s23) x0 x1 from by exact mkAt_all (by omega))) (fun z e => (Option.some.inj e) ▸ (congrArg (fun z => (z, ())) (show ((x1 + ((ctL (Sh.ct s47) (List.take i x0) : Nat) : Int))) = (mkK s23) x0 x1 from by (unfold mkK; rw [take_all (by omega)]; rfl))))

def S_laws_markRecoderS : Sum := { fid := 26, dom := [s26, (.int 3)], cod := [(.int 3)], dp := true, fz := false, pre := fun x => (pMk s26) x.1 x.2.1, g := fun x => (((mkK s26) x.1 x.2.1), ()), kinds := [.io, .rd], upd := fun x => ((Sh.mk s26) x.1 x.2.1, (x.2.1, ())) }
def S_laws_markRecoderS_tab : List (Nat × Sum) := [(44, S_laws_markCodedPacketS)]
theorem S_laws_markRecoderS_ok : FnOK Try.prog 26 S_laws_markRecoderS := by
 refine at_enterI 48 [1] [2] (fun us x => ⟨[(0, aS 1), (1, aI x.2.1)], [(1, oR s43 x.1), (2, oP 1 (S_laws_markRecoderS.hd us 0))]⟩) Try.func26 rfl (by kernel_rfl) (fun us x => rfl) ?_
 rintro w0 Z0 us ⟨x0, x1, u⟩ L a w
 revert x0 x1
 intro (x0 : (List T43)) (x1 : Int) hio hpre hlens h
 replace h : At w0 Z0 L 48 ⟨[(0, aS 1), (1, aI x1)], [(1, oR s43 x0), (2, oP 1 (S_laws_markRecoderS.hd us 0))]⟩ a w := h
 replace hpre : (pMk s26) x0 x1 := hpre
 have hl1 : List.length x0 ≤ 9223372036854775807 := hlens.1.1
 have hT : TabOK Try.prog S_laws_markRecoderS_tab := (.cons S_laws_markCodedPacketS_ok .nil)
 have hp : 0 ≤ x1 ∧ x1 + ((Sh.ct s26 x0 : Nat) : Int) ≤ 4611686018427387904 := hpre
 have hct0 : Sh.ct s26 x0 = ctL (Sh.ct s43) x0 := rfl
 refine wp_seq ?_
 refine at_regq [] { ts := [0, 1, 4], os := [1, 2] } [] gamOK hT h (by kernel_rfl) trivial fun a w h => then_normal (wp_seq (wp_seq ?_))
 refine at_regq [] { ts := [0, 1, 4, 5], os := [1, 2] } [] gamOK hT h (by kernel_rfl) trivial fun a w h => then_normal (wp_block ?_)
 replace h := at_out (σ' := ⟨[(0, aS 1), (1, aI x1), (4, aI 0), (5, aI 0)], [(1, oR s43 x0), (2, oP 1 (S_laws_markRecoderS.hd us 0))]⟩) { ts := [0, 1, 4, 5], os := [1, 2] } h (by kernel_rfl)
 refine at_loop (fun i : Nat => (⟨[(0, aS 1), (1, aI (x1 + ((ctL (Sh.ct s43) (List.take i x0) : Nat) : Int))), (4, aI 0), (5, aI ((i : Nat) : Int))], [(1, oR s43 (mkAt (Sh.mk s43) (Sh.ct s43) x1 x0 i)), (2, oP 1 (S_laws_markRecoderS.hd us 0))]⟩ : St)) (fun i => i ≤ List.length x0) (fun i => List.length x0 - i) (0) h (st_congr3 (fun (d0 : List T43) (d1 : Int) (d2 : Int) => (⟨[(0, aS 1), (1, aI d1), (4, aI 0), (5, aI d2)], [(1, oR s43 d0), (2, oP 1 (S_laws_markRecoderS.hd us 0))]⟩ : St)) (show (x0 : List T43) = (mkAt (Sh.mk s43) (Sh.ct s43) x1 x0 (0)) from by first | with_reducible rfl | (first | exact mkAt_zero.symm | simp [ctL]) | rfl) (show (x1 : Int) = (x1 + ((ctL (Sh.ct s43) (List.take (0) x0) : Nat) : Int)) from by first | with_reducible rfl | (first | exact mkAt_zero.symm | simp [ctL]) | rfl) (show (0 : Int) = (((0) : Nat) : Int) from by first | with_reducible rfl | (first | exact mkAt_zero.symm | simp [ctL]) | rfl)) (by omega) ?_
 intro i a w hok0 h
 refine wp_seq (wp_seq ?_)
 refine at_regq [] { ts := [0, 1, 4, 5, 9], os := [1, 2] } [] gamOK hT h (by kernel_rfl) trivial fun a w h => then_normal ?_
 refine at_test (decide (((i : Nat) : Int) < ((List.length (mkAt (Sh.mk s43) (Sh.ct s43) x1 x0 i) : Nat) : Int))) h (by kernel_rfl) (fun h1 => ?_) (fun h1 => ?_)
 ·replace h1 : ((i : Nat) : Int) < ((List.length (mkAt (Sh.mk s43) (Sh.ct s43) x1 x0 i) : Nat) : Int) := of_decide_eq_true h1
  have hml : List.length (mkAt (Sh.mk s43) (Sh.ct s43) x1 x0 i) = List.length x0 := mkAt_len
  rw [hml] at h1
  have hat := ctL_at_le (c := Sh.ct s43) (xs := x0) (z := (0, (0, (0, ([], 0))))) (i := i) (by omega)
  have hsu := ctL_take_succ (c := Sh.ct s43) (xs := x0) (z := (0, (0, (0, ([], 0))))) (i := i) (by omega)
  have hci : Sh.ct s43 (x0.getD i (0, (0, (0, ([], 0))))) = (1 + (1 + (1 + ((Sh.ct s41 (x0.getD i (0, (0, (0, ([], 0))))).2.2.2.1) + 1)))) := rfl
  have hge : List.getD (mkAt (Sh.mk s43) (Sh.ct s43) x1 x0 i) i (0, (0, (0, ([], 0)))) = (x0.getD i (0, (0, (0, ([], 0))))) := mkAt_get (by omega)
  refine wp_skip (then_normal (wp_seq (wp_block (wp_seq ?_))))
  replace h := at_open (σ' := ⟨[(0, aS 1), (1, aI (x1 + ((ctL (Sh.ct s43) (List.take i x0) : Nat) : Int))), (4, aI 0), (5, aI ((i : Nat) : Int)), (9, aB (decide (((i : Nat) : Int) < ((List.length (mkAt (Sh.mk s43) (Sh.ct s43) x1 x0 i) : Nat) : Int))))], [(1, some (.op s43 (mkAt (Sh.mk s43) (Sh.ct s43) x1 x0 i) i [cI ((mkAt (Sh.mk s43) (Sh.ct s43) x1 x0 i).getD i (0, (0, (0, ([], 0))))).1, cI ((mkAt (Sh.mk s43) (Sh.ct s43) x1 x0 i).getD i (0, (0, (0, ([], 0))))).2.1, cI ((mkAt (Sh.mk s43) (Sh.ct s43) x1 x0 i).getD i (0, (0, (0, ([], 0))))).2.2.1, .sl 3, cI ((mkAt (Sh.mk s43) (Sh.ct s43) x1 x0 i).getD i (0, (0, (0, ([], 0))))).2.2.2.2])), (2, oP 1 (S_laws_markRecoderS.hd us 0)), (3, oR s78 ((mkAt (Sh.mk s43) (Sh.ct s43) x1 x0 i).getD i (0, (0, (0, ([], 0))))).2.2.2.1)]⟩) (ps := [i < List.length (mkAt (Sh.mk s43) (Sh.ct s43) x1 x0 i)]) 1 i [3] { ts := [0, 1, 4, 5, 9], os := [1, 2, 3] } h (by kernel_rfl) ⟨(by first | omega | ((try simp only [hge, mkK]); omega) | (simp only [lsA, mkAt_len]; omega) | (simp; done) | (simp; omega)), trivial⟩
  refine at_regq [] { ts := [0, 1, 4, 5], os := [1, 2, 3] } [(0 : Int) ≤ ((i : Nat) : Int) ∧ ((i : Nat) : Int) < ((List.length (mkAt (Sh.mk s43) (Sh.ct s43) x1 x0 i) : Nat) : Int), i = i] gamOK hT h (by kernel_rfl) ⟨(by refine ⟨?_, ?_⟩ <;> (first | omega | ((try simp only [hge, mkK]); omega) | (simp only [lsA, mkAt_len]; omega) | (simp; done) | (simp; omega))), rfl, trivial⟩ fun a w h => then_normal (wp_seq ?_)
  refine at_regq [{}, { nw := true }] { ts := [0, 1, 4, 5], os := [1, 2, 3] } [I64 ((x1 + ((ctL (Sh.ct s43) (List.take i x0) : Nat) : Int)) + 1)] gamOK hT h (by kernel_rfl) ⟨⟨by first | omega | ((try simp only [hge, mkK]); omega) | (simp only [lsA, mkAt_len]; omega) | (simp; done) | (simp; omega), by first | omega | ((try simp only [hge, mkK]); omega) | (simp only [lsA, mkAt_len]; omega) | (simp; done) | (simp; omega)⟩, trivial⟩ fun a w h => then_normal (wp_seq ?_)
  refine at_regq [] { ts := [0, 1, 4, 5], os := [1, 2, 3] } [(0 : Int) ≤ ((i : Nat) : Int) ∧ ((i : Nat) : Int) < ((List.length (mkAt (Sh.mk s43) (Sh.ct s43) x1 x0 i) : Nat) : Int), i = i] gamOK hT h (by kernel_rfl) ⟨(by refine ⟨?_, ?_⟩ <;> (first | omega | ((try simp only [hge, mkK]); omega) | (simp only [lsA, mkAt_len]; omega) | (simp; done) | (simp; omega))), rfl, trivial⟩ fun a w h => then_normal (wp_seq ?_)
  refine at_regq [{}, { nw := true }] { ts := [0, 1, 4, 5], os := [1, 2, 3] } [I64 (((x1 + ((ctL (Sh.ct s43) (List.take i x0) : Nat) : Int)) + 1) + 1)] gamOK hT h (by kernel_rfl) ⟨⟨by first | omega | ((try simp only [hge, mkK]); omega) | (simp only [lsA, mkAt_len]; omega) | (simp; done) | (simp; omega), by first | omega | ((try simp only [hge, mkK]); omega) | (simp only [lsA, mkAt_len]; omega) | (simp; done) | (simp; omega)⟩, trivial⟩ fun a w h => then_normal (wp_seq ?_)
  refine at_regq [] { ts := [0, 1, 4, 5], os := [1, 2, 3] } [(0 : Int) ≤ ((i : Nat) : Int) ∧ ((i : Nat) : Int) < ((List.length (mkAt (Sh.mk s43) (Sh.ct s43) x1 x0 i) : Nat) : Int), i = i] gamOK hT h (by kernel_rfl) ⟨(by refine ⟨?_, ?_⟩ <;> (first | omega | ((try simp only [hge, mkK]); omega) | (simp only [lsA, mkAt_len]; omega) | (simp; done) | (simp; omega))), rfl, trivial⟩ fun a w h => then_normal (wp_seq ?_)
  refine at_regq [{}, { nw := true }] { ts := [0, 1, 4, 5], os := [1, 2, 3] } [I64 ((((x1 + ((ctL (Sh.ct s43) (List.take i x0) : Nat) : Int)) + 1) + 1) + 1)] gamOK hT h (by kernel_rfl) ⟨⟨by first | omega | ((try simp only [hge, mkK]); omega) | (simp only [lsA, mkAt_len]; omega) | (simp; done) | (simp; omega), by first | omega | ((try simp only [hge, mkK]); omega) | (simp only [lsA, mkAt_len]; omega) | (simp; done) | (simp; omega)⟩, trivial⟩ fun a w h => then_normal (wp_seq ?_)
  refine at_regq [] { ts := [0, 1, 4, 5], os := [1, 2, 3] } [(0 : Int) ≤ ((i : Nat) : Int) ∧ ((i : Nat) : Int) < ((List.length (mkAt (Sh.mk s43) (Sh.ct s43) x1 x0 i) : Nat) : Int), i = i, (pMk s41) ((mkAt (Sh.mk s43) (Sh.ct s43) x1 x0 i).getD i (0, (0, (0, ([], 0))))).2.2.2.1 ((((x1 + ((ctL (Sh.ct s43) (List.take i x0) : Nat) : Int)) + 1) + 1) + 1)] gamOK hT h (by kernel_rfl) ⟨(by refine ⟨?_, ?_⟩ <;> (first | omega | ((try simp only [hge, mkK]); omega) | (simp only [lsA, mkAt_len]; omega) | (simp; done) | (simp; omega))), rfl, (by (show (0 : Int) ≤ _ ∧ _ + ((Sh.ct _ _ : Nat) : Int) ≤ (4611686018427387904 : Int); (try simp only [hge, mkK]); constructor <;> omega)), trivial⟩ fun a w h => then_normal (wp_seq ?_)
  refine at_regq [] { ts := [0, 1, 4, 5], os := [1, 2, 3] } [(0 : Int) ≤ ((i : Nat) : Int) ∧ ((i : Nat) : Int) < ((List.length (mkAt (Sh.mk s43) (Sh.ct s43) x1 x0 i) : Nat) : Int), i = i] gamOK hT h (by kernel_rfl) ⟨(by refine ⟨?_, ?_⟩ <;> (first | omega | ((try simp only [hge, mkK]); omega) | (simp only [lsA, mkAt_len]; omega) | (simp; done) | (simp; omega))), rfl, trivial⟩ fun a w h => then_normal ?_
  refine at_regq [{}, { nw := true }] { ts := [0, 1, 4, 5], os := [1, 2, 3] } [I64 (((mkK s41) ((mkAt (Sh.mk s43) (Sh.ct s43) x1 x0 i).getD i (0, (0, (0, ([], 0))))).2.2.2.1 ((((x1 + ((ctL (Sh.ct s43) (List.take i x0) : Nat) : Int)) + 1) + 1) + 1)) + 1)] gamOK hT h (by kernel_rfl) ⟨⟨by first | omega | ((try simp only [hge, mkK]); omega) | (simp only [lsA, mkAt_len]; omega) | (simp; done) | (simp; omega), by first | omega | ((try simp only [hge, mkK]); omega) | (simp only [lsA, mkAt_len]; omega) | (simp; done) | (simp; omega)⟩, trivial⟩ fun a w h => in_normal (then_normal ?_)
  refine at_regq [{}, { nw := true }] { ts := [0, 1, 4, 5], os := [1, 2, 3] } [I64 (((i : Nat) : Int) + 1)] gamOK hT h (by kernel_rfl) ⟨⟨by first | omega | ((try simp only [hge, mkK]); omega) | (simp only [lsA, mkAt_len]; omega) | (simp; done) | (simp; omega), by first | omega | ((try simp only [hge, mkK]); omega) | (simp only [lsA, mkAt_len]; omega) | (simp; done) | (simp; omega)⟩, trivial⟩ fun a w h => ?_
  replace h := at_shut (σ' := ⟨[(0, aS 1), (1, aI (((mkK s41) ((mkAt (Sh.mk s43) (Sh.ct s43) x1 x0 i).getD i (0, (0, (0, ([], 0))))).2.2.2.1 ((((x1 + ((ctL (Sh.ct s43) (List.take i x0) : Nat) : Int)) + 1) + 1) + 1)) + 1)), (4, aI 0), (5, aI (((i : Nat) : Int) + 1))], [(1, oR s43 (List.set (mkAt (Sh.mk s43) (Sh.ct s43) x1 x0 i) i ((x1 + ((ctL (Sh.ct s43) (List.take i x0) : Nat) : Int)), ((x1 + ((ctL (Sh.ct s43) (List.take i x0) : Nat) : Int)) + 1, (((x1 + ((ctL (Sh.ct s43) (List.take i x0) : Nat) : Int)) + 1) + 1, (((Sh.mk s41) ((mkAt (Sh.mk s43) (Sh.ct s43) x1 x0 i).getD i (0, (0, (0, ([], 0))))).2.2.2.1 ((((x1 + ((ctL (Sh.ct s43) (List.take i x0) : Nat) : Int)) + 1) + 1) + 1)), ((mkK s41) ((mkAt (Sh.mk s43) (Sh.ct s43) x1 x0 i).getD i (0, (0, (0, ([], 0))))).2.2.2.1 ((((x1 + ((ctL (Sh.ct s43) (List.take i x0) : Nat) : Int)) + 1) + 1) + 1)))))))), (2, oP 1 (S_laws_markRecoderS.hd us 0))]⟩) (ps := []) 1 { ts := [0, 1, 4, 5], os := [1, 2] } h (by kernel_rfl) trivial
  replace h := at_out (σ' := ⟨[(0, aS 1), (1, aI (((mkK s41) ((mkAt (Sh.mk s43) (Sh.ct s43) x1 x0 i).getD i (0, (0, (0, ([], 0))))).2.2.2.1 ((((x1 + ((ctL (Sh.ct s43) (List.take i x0) : Nat) : Int)) + 1) + 1) + 1)) + 1)), (4, aI 0), (5, aI (((i : Nat) : Int) + 1))], [(1, oR s43 (List.set (mkAt (Sh.mk s43) (Sh.ct s43) x1 x0 i) i ((x1 + ((ctL (Sh.ct s43) (List.take i x0) : Nat) : Int)), ((x1 + ((ctL (Sh.ct s43) (List.take i x0) : Nat) : Int)) + 1, (((x1 + ((ctL (Sh.ct s43) (List.take i x0) : Nat) : Int)) + 1) + 1, (((Sh.mk s41) ((mkAt (Sh.mk s43) (Sh.ct s43) x1 x0 i).getD i (0, (0, (0, ([], 0))))).2.2.2.1 ((((x1 + ((ctL (Sh.ct s43) (List.take i x0) : Nat) : Int)) + 1) + 1) + 1)), ((mkK s41) ((mkAt (Sh.mk s43) (Sh.ct s43) x1 x0 i).getD i (0, (0, (0, ([], 0))))).2.2.2.1 ((((x1 + ((ctL (Sh.ct s43) (List.take i x0) : Nat) : Int)) + 1) + 1) + 1)))))))), (2, oP 1 (S_laws_markRecoderS.hd us 0))]⟩) { ts := [0, 1, 4, 5], os := [1, 2] } h (by kernel_rfl)
  skip
  exact ⟨i + 1, at_eq h (st_congr3 (fun (d0 : List T43) (d1 : Int) (d2 : Int) => (⟨[(0, aS 1), (1, aI d1), (4, aI 0), (5, aI d2)], [(1, oR s43 d0), (2, oP 1 (S_laws_markRecoderS.hd us 0))]⟩ : St)) (show ((List.set (mkAt (Sh.mk s43) (Sh.ct s43) x1 x0 i) i ((x1 + ((ctL (Sh.ct s43) (List.take i x0) : Nat) : Int)), ((x1 + ((ctL (Sh.ct s43) (List.take i x0) : Nat) : Int)) + 1, (((x1 + ((ctL (Sh.ct s43) (List.take i x0) : Nat) : Int)) + 1) + 1, (((Sh.mk s41) ((mkAt (Sh.mk s43) (Sh.ct s43) x1 x0 i).getD i (0, (0, (0, ([], 0))))).2.2.2.1 ((((x1 + ((ctL (Sh.ct s43) (List.take i x0) : Nat) : Int)) + 1) + 1) + 1)), ((mkK s41) ((mkAt (Sh.mk s43) (Sh.ct s43) x1 x0 i).getD i (0, (0, (0, ([], 0))))).2.2.2.1 ((((x1 + ((ctL (Sh.ct s43) (List.take i x0) : Nat) : Int)) + 1) + 1) + 1))))))) : List T43) = (mkAt (Sh.mk s43) (Sh.ct s43) x1 x0 (i + 1)) from by first | with_reducible rfl | (refine mkAt_set' (z := (0, (0, (0, ([], 0))))) (by omega) ?_; first | (simp only [hge, mkK]; done) | ((try simp only [hge, mkK]); show _ = Sh.mk s43 (x0.getD i (0, (0, (0, ([], 0))))) _; exact (Prod.ext (by show (_ : Int) = _; first | rfl | omega) (Prod.ext (by show (_ : Int) = _; first | rfl | omega) (Prod.ext (by show (_ : Int) = _; first | rfl | omega) (Prod.ext (congrArg (fun k => Sh.mk s41 (x0.getD i (0, (0, (0, ([], 0))))).2.2.2.1 k) (by first | rfl | omega)) (by show (_ : Int) = _; first | rfl | omega))))))) | rfl) (show (((mkK s41) ((mkAt (Sh.mk s43) (Sh.ct s43) x1 x0 i).getD i (0, (0, (0, ([], 0))))).2.2.2.1 ((((x1 + ((ctL (Sh.ct s43) (List.take i x0) : Nat) : Int)) + 1) + 1) + 1)) + 1 : Int) = (x1 + ((ctL (Sh.ct s43) (List.take (i + 1) x0) : Nat) : Int)) from by first | with_reducible rfl | (((try simp only [hge, mkK]); omega)) | rfl) (show (((i : Nat) : Int) + 1 : Int) = (((i + 1) : Nat) : Int) from by first | with_reducible rfl | (omega) | rfl)), (by first | omega | (refine ⟨?_, ?_⟩ <;> omega)), (by omega)⟩
 ·replace h1 : ¬ (((i : Nat) : Int) < ((List.length (mkAt (Sh.mk s43) (Sh.ct s43) x1 x0 i) : Nat) : Int)) := of_decide_eq_false h1
  have hml : List.length (mkAt (Sh.mk s43) (Sh.ct s43) x1 x0 i) = List.length x0 := mkAt_len
  rw [hml] at h1
  refine wp_exit (then_exit (then_exit (in_hit (then_normal (wp_seq ?_)))))
  refine at_regq [] { ts := [4], os := [1, 2] } [] gamOK hT h (by kernel_rfl) trivial fun a w h => then_normal (wp_ret ?_)
  exact at_returnI (S := S_laws_markRecoderS) (x := (x0, x1, ())) [1] [2] ((mkAt (Sh.mk s43) (Sh.ct s43) x1 x0 i), (x1, ())) (some ((x1 + ((ctL (Sh.ct s43) (List.take i x0) : Nat) : Int)), ())) [S_laws_markRecoderS.hd us 0 = S_laws_markRecoderS.hd us 0] hio h (by kernel_rfl) ⟨rfl, trivial⟩ (by first | rfl | exact congrArg (fun (z : (List T43)) => (z, (x1, ()))) (show ((mkAt (Sh.mk s43) (Sh.ct s43) x1 x0 i) : (List T43)) = (Sh.mk s26) x0 x1 from by exact mkAt_all (by omega))) (fun z e => (Option.some.inj e) ▸ (congrArg (fun z => (z, ())) (show ((x1 + ((ctL (Sh.ct s43) (List.take i x0) : Nat) : Int))) = (mkK s26) x0 x1 from by (unfold mkK; rw [take_all (by omega)]; rfl))))

def S_laws_markSource : Sum := { fid := 10, dom := [s31, (.int 3)], cod := [(.int 3)], dp := true, fz := false, pre := fun x => (pMkT s31) x.1 x.2.1, g := fun x => (((mkKT s31) x.1 x.2.1), ()), kinds := [.io, .rd], upd := fun x => ((Sh.mkT s31) x.1 x.2.1, (x.2.1, ())) }
def S_laws_markSource_tab : List (Nat × Sum) := [(25, S_laws_markGenerationS), (26, S_laws_markRecoderS), (27, S_laws_markFeedbackTable)]
theorem S_laws_markSource_ok : FnOK Try.prog 10 S_laws_markSource := by
 refine at_enterI 18 [1, 2, 3] [4, 5, 6] (fun us x => ⟨[(0, aG [.sl 1, cI x.1.2.1.1, cI x.1.2.1.2.1, cI x.1.2.1.2.2.1, cI x.1.2.1.2.2.2, .sl 2, .sl 3, cI x.1.2.2.2.2]), (1, aI x.2.1)], [(1, oR s47 x.1.1), (2, oR s43 x.1.2.2.1), (3, oR s75 x.1.2.2.2.1), (4, oP 1 (S_laws_markSource.hd us 0)), (5, oP 2 (S_laws_markSource.hd us 1)), (6, oP 3 (S_laws_markSource.hd us 2))]⟩) Try.func10 rfl (by kernel_rfl) (fun us x => rfl) ?_
 rintro w0 Z0 us ⟨x0, x1, u⟩ L a w
 revert x0 x1
 intro (x0 : T31) (x1 : Int) hio hpre hlens h
 replace h : At w0 Z0 L 18 ⟨[(0, aG [.sl 1, cI x0.2.1.1, cI x0.2.1.2.1, cI x0.2.1.2.2.1, cI x0.2.1.2.2.2, .sl 2, .sl 3, cI x0.2.2.2.2]), (1, aI x1)], [(1, oR s47 x0.1), (2, oR s43 x0.2.2.1), (3, oR s75 x0.2.2.2.1), (4, oP 1 (S_laws_markSource.hd us 0)), (5, oP 2 (S_laws_markSource.hd us 1)), (6, oP 3 (S_laws_markSource.hd us 2))]⟩ a w := h
 replace hpre : (pMkT s31) x0 x1 := hpre
 have hl1 : List.length x0.1 ≤ 9223372036854775807 := hlens.1.1.1
 have hl2 : List.length x0.2.2.1 ≤ 9223372036854775807 := hlens.1.2.2.1.1
 have hl3 : List.length x0.2.2.2.1 ≤ 9223372036854775807 := hlens.1.2.2.2.1.1
 have hT : TabOK Try.prog S_laws_markSource_tab := (.cons S_laws_markGenerationS_ok (.cons S_laws_markRecoderS_ok (.cons S_laws_markFeedbackTable_ok .nil)))
 have hp : 0 ≤ x1 ∧ x1 + ((Sh.ctT s31 x0 : Nat) : Int) ≤ 4611686018427387904 := hpre
 have hct0 : Sh.ctT s31 x0 = ((Sh.ct s23 x0.1) + (0 + ((Sh.ct s26 x0.2.2.1) + ((Sh.ctT s29 x0.2.2.2.1) + 0)))) := rfl
 refine wp_seq ?_
 refine at_regq [{ ids := [7] }] { ts := [1, 2, 4], os := [1, 2, 3, 4, 5, 6, 7] } [] gamOK hT h (by kernel_rfl) trivial fun a w h => then_normal (wp_seq ?_)
 refine at_regq [] { ts := [1, 2, 4], os := [1, 2, 3, 4, 5, 6, 7] } [(pMk s23) x0.1 x1] gamOK hT h (by kernel_rfl) ⟨(by (first | (show (0 : Int) ≤ _ ∧ _ + ((Sh.ct _ _ : Nat) : Int) ≤ (4611686018427387904 : Int); (try simp only [mkK, mkKT]); constructor <;> omega) | (show (0 : Int) ≤ _ ∧ _ + ((Sh.ctT _ _ : Nat) : Int) ≤ (4611686018427387904 : Int); (try simp only [mkK, mkKT]); constructor <;> omega))), trivial⟩ fun a w h => then_normal (wp_seq ?_)
 refine at_regq [] { ts := [1, 2, 4], os := [1, 2, 3, 4, 5, 6, 7] } [(pMk s26) x0.2.2.1 ((mkK s23) x0.1 x1)] gamOK hT h (by kernel_rfl) ⟨(by (first | (show (0 : Int) ≤ _ ∧ _ + ((Sh.ct _ _ : Nat) : Int) ≤ (4611686018427387904 : Int); (try simp only [mkK, mkKT]); constructor <;> omega) | (show (0 : Int) ≤ _ ∧ _ + ((Sh.ctT _ _ : Nat) : Int) ≤ (4611686018427387904 : Int); (try simp only [mkK, mkKT]); constructor <;> omega))), trivial⟩ fun a w h => then_normal (wp_seq ?_)
 refine at_regq [] { ts := [1, 4], os := [1, 2, 3, 4, 5, 6] } [(pMkT s29) x0.2.2.2.1 ((mkK s26) x0.2.2.1 ((mkK s23) x0.1 x1))] gamOK hT h (by kernel_rfl) ⟨(by (first | (show (0 : Int) ≤ _ ∧ _ + ((Sh.ct _ _ : Nat) : Int) ≤ (4611686018427387904 : Int); (try simp only [mkK, mkKT]); constructor <;> omega) | (show (0 : Int) ≤ _ ∧ _ + ((Sh.ctT _ _ : Nat) : Int) ≤ (4611686018427387904 : Int); (try simp only [mkK, mkKT]); constructor <;> omega))), trivial⟩ fun a w h => then_normal (wp_seq ?_)
 refine at_regq [] { ts := [4], os := [1, 2, 3, 4, 5, 6] } [] gamOK hT h (by kernel_rfl) trivial fun a w h => then_normal (wp_ret ?_)
 exact at_returnI (S := S_laws_markSource) (x := (x0, x1, ())) [1, 2, 3] [4, 5, 6] ((((Sh.mk s23) x0.1 x1), (x0.2.1, (((Sh.mk s26) x0.2.2.1 ((mkK s23) x0.1 x1)), (((Sh.mkT s29) x0.2.2.2.1 ((mkK s26) x0.2.2.1 ((mkK s23) x0.1 x1))), x0.2.2.2.2)))), (x1, ())) (some (((mkKT s29) x0.2.2.2.1 ((mkK s26) x0.2.2.1 ((mkK s23) x0.1 x1))), ())) [S_laws_markSource.hd us 0 = S_laws_markSource.hd us 0, S_laws_markSource.hd us 1 = S_laws_markSource.hd us 1, S_laws_markSource.hd us 2 = S_laws_markSource.hd us 2] hio h (by kernel_rfl) ⟨rfl, rfl, rfl, trivial⟩ (by first | rfl | exact congrArg (fun (z : T31) => (z, (x1, ()))) (show ((((Sh.mk s23) x0.1 x1), (x0.2.1, (((Sh.mk s26) x0.2.2.1 ((mkK s23) x0.1 x1)), (((Sh.mkT s29) x0.2.2.2.1 ((mkK s26) x0.2.2.1 ((mkK s23) x0.1 x1))), x0.2.2.2.2)))) : T31) = (Sh.mkT s31) x0 x1 from by show _ = Sh.mkT s31 x0 x1; exact (Prod.ext (congrArg (fun k => Sh.mk s23 x0.1 k) (show (_ : Int) = x1 from by first | rfl | ((try simp only [mkK, mkKT]); omega))) (Prod.ext rfl (Prod.ext (congrArg (fun k => Sh.mk s26 x0.2.2.1 k) (show (_ : Int) = x1 + (((Sh.ct s23 x0.1) : Nat) : Int) + ((0 : Nat) : Int) from by first | rfl | ((try simp only [mkK, mkKT]); omega))) (Prod.ext (congrArg (fun k => Sh.mkT s29 x0.2.2.2.1 k) (show (_ : Int) = x1 + (((Sh.ct s23 x0.1) : Nat) : Int) + ((0 : Nat) : Int) + (((Sh.ct s26 x0.2.2.1) : Nat) : Int) from by first | rfl | ((try simp only [mkK, mkKT]); omega))) rfl)))))) (fun z e => (Option.some.inj e) ▸ (congrArg (fun z => (z, ())) (show (((mkKT s29) x0.2.2.2.1 ((mkK s26) x0.2.2.1 ((mkK s23) x0.1 x1)))) = (mkKT s31) x0 x1 from by ((try simp only [mkK, mkKT]); omega))))

end Go.Proofs.Ytpkbkphpepkmpaa

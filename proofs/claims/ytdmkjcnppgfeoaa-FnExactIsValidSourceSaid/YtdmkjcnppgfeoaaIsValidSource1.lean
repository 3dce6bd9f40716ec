/- The walks of the functions that the law reaches: each summary holds. No condition. -/
import Derived.Test.YtdmkjcnppgfeoaaPZ
import Derived.Test.YtdmkjcnppgfeoaaLA
import Derived.Test.YtdmkjcnppgfeoaaProg
namespace Go.Proofs.Ytdmkjcnppgfeoaa
open Go.RowKit
set_option linter.unusedVariables false
set_option linter.unusedSimpArgs false
abbrev s247 : Sh := .st 247 (.pair (.int 3) (.pair (.int 3) (.int 3)))
abbrev T247 : Type := (Int × (Int × Int))
abbrev s87 : Sh := .sl 87 s247
abbrev s22 : Sh := .sl 22 (.int 3)
abbrev s97 : Sh := .sl 97 s22
abbrev s101 : Sh := .st 101 (.pair (.int 3) s97)
abbrev T101 : Type := (Int × (List (List Int)))
abbrev s61 : Sh := .st 61 (.pair (.int 3) (.pair s22 s22))
abbrev T61 : Type := (Int × ((List Int) × (List Int)))
abbrev s126 : Sh := .sl 126 s61
abbrev s89 : Sh := .st 89 s87
abbrev s218 : Sh := .st 218 (.pair (.int 3) s97)
abbrev T218 : Type := (Int × (List (List Int)))
abbrev s30 : Sh := .sl 30 s218
abbrev s128 : Sh := .st 128 (.pair (.int 3) (.pair (.int 3) (.pair (.int 3) (.pair s126 (.int 3)))))
abbrev T128 : Type := (Int × (Int × (Int × ((List T61) × Int))))
abbrev s86 : Sh := .sl 86 s128
abbrev s85 : Sh := .st 85 (.pair (.int 3) (.pair (.int 3) (.pair (.int 3) (.int 3))))
abbrev T85 : Type := (Int × (Int × (Int × Int)))
abbrev s91 : Sh := .st 91 (.pair s30 (.pair s85 (.pair s86 (.pair s89 (.int 3)))))
abbrev T91 : Type := ((List T218) × (T85 × ((List T128) × ((List T247) × Int))))
abbrev s44 : Sh := .st 44 (.pair (.int 3) (.pair s22 s22))
abbrev T44 : Type := (Int × ((List Int) × (List Int)))
abbrev s122 : Sh := .sl 122 s44
abbrev s285 : Sh := .st 285 (.pair (.int 3) (.pair (.int 3) (.int 3)))
abbrev T285 : Type := (Int × (Int × Int))
abbrev s79 : Sh := .sl 79 s285
abbrev s81 : Sh := .st 81 s79
abbrev s223 : Sh := .st 223 (.pair (.int 3) s97)
abbrev T223 : Type := (Int × (List (List Int)))
abbrev s24 : Sh := .sl 24 s223
abbrev s124 : Sh := .st 124 (.pair (.int 3) (.pair (.int 3) (.pair (.int 3) (.pair s122 (.int 3)))))
abbrev T124 : Type := (Int × (Int × (Int × ((List T44) × Int))))
abbrev s78 : Sh := .sl 78 s124
abbrev s77 : Sh := .st 77 (.pair (.int 3) (.pair (.int 3) (.pair (.int 3) (.int 3))))
abbrev T77 : Type := (Int × (Int × (Int × Int)))
abbrev s83 : Sh := .st 83 (.pair s24 (.pair s77 (.pair s78 (.pair s81 (.int 3)))))
abbrev T83 : Type := ((List T223) × (T77 × ((List T124) × ((List T285) × Int))))
def gam : Gam := [(87, s247, 24), (22, (.int 3), 8), (97, s22, 24), (126, s61, 56), (30, s218, 32), (86, s128, 56)]
theorem gamOK : GamOK Try.prog gam := (.cons (Elem.of (.agg #[(.int .i64 0), (.int .i64 0), (.int .i64 0)]) Try.underlying87 (by kernel_rfl) rfl (by decide) (by decide)) (.cons (Elem.of (.int .i64 0) Try.underlying22 (by kernel_rfl) rfl (by decide) (by decide)) (.cons (Elem.of (.slice none 0 0) Try.underlying97 (by kernel_rfl) rfl (by decide) (by decide)) (.cons (Elem.of (.agg #[(.int .i64 0), (.slice none 0 0), (.slice none 0 0)]) Try.underlying126 (by kernel_rfl) rfl (by decide) (by decide)) (.cons (Elem.of (.agg #[(.int .i64 0), (.slice none 0 0)]) Try.underlying30 (by kernel_rfl) rfl (by decide) (by decide)) (.cons (Elem.of (.agg #[(.int .i64 0), (.int .i64 0), (.int .i64 0), (.slice none 0 0), (.int .i64 0)]) Try.underlying86 (by kernel_rfl) rfl (by decide) (by decide)) .nil))))))
theorem mixed : Try.prog.follows .mixedOrders = true := by kernel_rfl
theorem lsA {α : Type} : (∀ xs ys : List α, (xs ++ ys).length = xs.length + ys.length) ∧ (∀ (x : α) (xs : List α), (x :: xs).length = xs.length + 1) ∧ (([] : List α).length = 0) ∧ (∀ (xs : List α) (i : Nat) (a : α), (xs.set i a).length = xs.length) ∧ (∀ (xs : List α) (n : Nat), (xs.take n).length = min n xs.length) ∧ (∀ (xs : List α) (n : Nat), (xs.drop n).length = xs.length - n) ∧ (∀ (n : Nat) (a : α), (List.replicate n a).length = n) := ⟨fun _ _ => List.length_append, fun _ _ => rfl, rfl, fun _ _ _ => List.length_set, fun _ _ => List.length_take, fun _ _ => List.length_drop, fun _ _ => List.length_replicate⟩
def inR (n lo hi : Int) : Bool := decide (lo ≤ n ∧ n ≤ hi)
theorem inR_t {n a b : Int} (h : inR n a b = true) : a ≤ n ∧ n ≤ b := of_decide_eq_true h
theorem inR_f {n a b : Int} (h : inR n a b = false) : n < a ∨ b < n := by have := of_decide_eq_false h; omega
theorem inR_true {n a b : Int} (h : a ≤ n ∧ n ≤ b) : inR n a b = true := decide_eq_true h
def lenOK {α : Type} (xs : List α) : Prop := xs.length ≤ 1073741824
def idL {α : Type} (xs : List α) : List α := xs
section
variable {α β : Type}
/-- none of the first i -/
def noneTo (p : α → Bool) (xs : List α) (z : α) (i : Nat) : Prop := ∀ j, j < i → p (xs.getD j z) = false
def idxF (p : α → Bool) : List α → Int
  | [] => -1
  | x :: l => if p x = true then 0 else if idxF p l < 0 then -1 else idxF p l + 1
theorem noneTo_zero {p : α → Bool} {xs : List α} {z : α} : noneTo p xs z 0 := fun j h => by omega
theorem noneTo_succ {p : α → Bool} {xs : List α} {z : α} {i : Nat} (h : noneTo p xs z i) (k : p (xs.getD i z) = false) : noneTo p xs z (i + 1) := fun j hj => by
  by_cases e : j = i
  · subst e; exact k
  · exact h j (by omega)
theorem idxF_at {p : α → Bool} {z : α} : ∀ {xs : List α} {i : Nat}, i < xs.length → noneTo p xs z i → p (xs.getD i z) = true → idxF p xs = i
  | [], _, h, _, _ => by simp at h
  | x :: l, 0, _, _, k => by
    have k : p x = true := k
    simp [idxF, k]
  | x :: l, i + 1, h, hn, k => by
    have h0 : p x = false := hn 0 (by omega)
    have := idxF_at (xs := l) (i := i) (by simpa using h) (fun j hj => by have := hn (j + 1) (by omega); simpa using this) (by simpa using k)
    simp only [idxF, h0, this]
    rw [if_neg (by decide), if_neg (by omega)]
    omega
theorem idxF_none {p : α → Bool} {z : α} : ∀ {xs : List α} {i : Nat}, xs.length ≤ i → noneTo p xs z i → idxF p xs = -1
  | [], _, _, _ => rfl
  | x :: l, 0, h, _ => by simp at h
  | x :: l, i + 1, h, hn => by
    have h0 : p x = false := hn 0 (by omega)
    have := idxF_none (xs := l) (i := i) (by simpa using h) (fun j hj => by have := hn (j + 1) (by omega); simpa using this)
    simp [idxF, h0, this]
theorem idxF_pos {p : α → Bool} : ∀ {xs : List α}, 0 ≤ idxF p xs ↔ xs.any p = true
  | [] => by simp [idxF]
  | x :: l => by
    have := idxF_pos (xs := l) (p := p)
    simp only [idxF, List.any_cons, Bool.or_eq_true, ← this]
    by_cases hx : p x = true
    · simp [hx]
    · rw [if_neg hx]
      split
      · rename_i h; constructor
        · intro h'; omega
        · rintro (h' | h')
          · exact absurd h' hx
          · omega
      · rename_i h; constructor
        · intro h'; right; omega
        · intro _; omega
theorem idxF_any {p : α → Bool} {xs : List α} : decide (idxF p xs ≥ 0) = xs.any p := by
  rw [Bool.eq_iff_iff, decide_eq_true_iff]; exact idxF_pos
/-- the first i alike -/
def allTo2 (e : α → β → Bool) (xs : List α) (ys : List β) (z : α) (y : β) (i : Nat) : Prop := ∀ j, j < i → e (xs.getD j z) (ys.getD j y) = true
def eqF (e : α → β → Bool) : List α → List β → Bool
  | [], [] => true
  | x :: l, y :: l' => e x y && eqF e l l'
  | _, _ => false
theorem allTo2_zero {e : α → β → Bool} {xs : List α} {ys : List β} {z : α} {y : β} : allTo2 e xs ys z y 0 := fun j h => by omega
theorem allTo2_succ {e : α → β → Bool} {xs : List α} {ys : List β} {z : α} {y : β} {i : Nat} (h : allTo2 e xs ys z y i) (k : e (xs.getD i z) (ys.getD i y) = true) : allTo2 e xs ys z y (i + 1) := fun j hj => by
  by_cases e : j = i
  · subst e; exact k
  · exact h j (by omega)
theorem eqF_len {e : α → β → Bool} : ∀ {xs : List α} {ys : List β}, xs.length ≠ ys.length → eqF e xs ys = false
  | [], [], h => absurd rfl h
  | [], _ :: _, _ => rfl
  | _ :: _, [], _ => rfl
  | _ :: l, _ :: l', h => by simp only [eqF]; rw [eqF_len (xs := l) (ys := l') (by simpa using h), Bool.and_false]
theorem eqF_at {e : α → β → Bool} {z : α} {y : β} : ∀ {xs : List α} {ys : List β} {i : Nat}, i < xs.length → i < ys.length → e (xs.getD i z) (ys.getD i y) = false → eqF e xs ys = false
  | x :: l, y' :: l', 0, _, _, h => by
    have h : e x y' = false := h
    simp [eqF, h]
  | x :: l, y' :: l', i + 1, h1, h2, h => by simp only [eqF]; rw [eqF_at (xs := l) (ys := l') (i := i) (by simpa using h1) (by simpa using h2) (by simpa using h), Bool.and_false]
  | [], _, _, h1, _, _ => by simp at h1
  | _ :: _, [], _, _, h2, _ => by simp at h2
theorem eqF_all {e : α → β → Bool} {z : α} {y : β} : ∀ {xs : List α} {ys : List β} {i : Nat}, xs.length = ys.length → xs.length ≤ i → allTo2 e xs ys z y i → eqF e xs ys = true
  | [], [], _, _, _, _ => rfl
  | [], _ :: _, _, h, _, _ => by simp at h
  | _ :: _, [], _, h, _, _ => by simp at h
  | x :: l, y' :: l', 0, _, h, _ => by simp at h
  | x :: l, y' :: l', i + 1, h, hi, ha => by
    have h0 : e x y' = true := ha 0 (by omega)
    simp only [eqF]
    rw [h0, eqF_all (xs := l) (ys := l') (i := i) (by simpa using h) (by simpa using hi) (fun j hj => by have := ha (j + 1) (by omega); simpa using this)]
    rfl
/-- all of the first i -/
def allTo1 (p : α → Bool) (xs : List α) (z : α) (i : Nat) : Prop := ∀ j, j < i → p (xs.getD j z) = true
theorem allTo1_zero {p : α → Bool} {xs : List α} {z : α} : allTo1 p xs z 0 := fun j h => by omega
theorem allTo1_succ {p : α → Bool} {xs : List α} {z : α} {i : Nat} (h : allTo1 p xs z i) (k : p (xs.getD i z) = true) : allTo1 p xs z (i + 1) := fun j hj => by
  by_cases e : j = i
  · subst e; exact k
  · exact h j (by omega)
theorem all_at {p : α → Bool} {xs : List α} {z : α} {i : Nat} (h : i < xs.length) (k : p (xs.getD i z) = false) : xs.all p = false := by
  rw [Bool.eq_false_iff]; intro ha
  have := List.all_eq_true.1 ha _ (getD_mem (z := z) h)
  rw [k] at this; cases this
theorem all_of {p : α → Bool} {xs : List α} {z : α} {i : Nat} (h : xs.length ≤ i) (k : allTo1 p xs z i) : xs.all p = true := by
  rw [List.all_eq_true]; intro x hx
  obtain ⟨j, hj, rfl⟩ := List.getElem_of_mem hx
  have := k j (by omega)
  rwa [getD_of_lt hj] at this
/-- folded so far -/
def foldTo (f : β → α → β) (b : β) (xs : List α) (i : Nat) : β := (xs.take i).foldl f b
theorem foldTo_zero {f : β → α → β} {b : β} {xs : List α} : foldTo f b xs 0 = b := rfl
theorem foldTo_succ {f : β → α → β} {b : β} {xs : List α} {i : Nat} (z : α) (h : i < xs.length) : foldTo f b xs (i + 1) = f (foldTo f b xs i) (xs.getD i z) := by
  unfold foldTo; rw [take_snoc (z := z) h, List.foldl_append]; rfl
theorem foldTo_all {f : β → α → β} {b : β} {xs : List α} {i : Nat} (h : xs.length ≤ i) : foldTo f b xs i = xs.foldl f b := by unfold foldTo; rw [take_all h]
end
theorem beqT {a b : Bool} (h : a = b) : (a == b) = true := by subst h; simp
section
variable {α β : Type}
theorem any_at {p : α → Bool} {xs : List α} {z : α} {i : Nat} (h : i < xs.length) (k : p (xs.getD i z) = true) : xs.any p = true := List.any_eq_true.2 ⟨_, getD_mem h, k⟩
theorem any_of {p : α → Bool} {xs : List α} {z : α} {i : Nat} (h : xs.length ≤ i) (k : noneTo p xs z i) : xs.any p = false := by
  rw [Bool.eq_false_iff]; intro ha
  obtain ⟨x, hx, hp⟩ := List.any_eq_true.1 ha
  obtain ⟨j, hj, rfl⟩ := List.getElem_of_mem hx
  have := k j (by omega)
  rw [getD_of_lt hj, hp] at this; cases this
/-- P holds of all below n -/
def allN (P : Nat → Bool) : Nat → Bool
  | 0 => true
  | n + 1 => allN P n && P n
theorem allN_succ {P : Nat → Bool} {i : Nat} (h : allN P i = true) (k : P i = true) : allN P (i + 1) = true := by simp [allN, h, k]
theorem allN_iff {P : Nat → Bool} : ∀ {n : Nat}, allN P n = true ↔ ∀ j, j < n → P j = true
  | 0 => by simp [allN]
  | n + 1 => by
    simp only [allN, Bool.and_eq_true, allN_iff (n := n)]
    constructor
    · rintro ⟨h1, h2⟩ j hj
      by_cases e : j = n
      · rw [e]; exact h2
      · exact h1 j (by omega)
    · intro h; exact ⟨fun j hj => h j (by omega), h n (by omega)⟩
theorem allN_eq {P : Nat → Bool} {i n : Nat} (h : n ≤ i) (h' : i ≤ n) (k : allN P i = true) : allN P n = true := by rw [show n = i by omega]; exact k
theorem allN_at {P : Nat → Bool} {i n : Nat} (h : i < n) (k : P i = false) : allN P n = false := by
  rw [Bool.eq_false_iff]; intro ha
  rw [allN_iff.1 ha i h] at k; cases k
theorem map_snoc {f : α → β} {xs : List α} {i : Nat} {z : α} (h : i < xs.length) : (xs.take (i + 1)).map f = (xs.take i).map f ++ [f (xs.getD i z)] := by rw [take_snoc (z := z) h, List.map_append]; rfl
theorem filter_snoc_t {p : α → Bool} {xs : List α} {i : Nat} {z : α} (h : i < xs.length) (k : p (xs.getD i z) = true) : (xs.take (i + 1)).filter p = (xs.take i).filter p ++ [xs.getD i z] := by rw [take_snoc (z := z) h, List.filter_append, List.filter_cons_of_pos k]; rfl
theorem filter_snoc_f {p : α → Bool} {xs : List α} {i : Nat} {z : α} (h : i < xs.length) (k : p (xs.getD i z) = false) : (xs.take (i + 1)).filter p = (xs.take i).filter p := by rw [take_snoc (z := z) h, List.filter_append, List.filter_cons_of_neg (by rw [k]; decide)]; simp
theorem len_filter_take {p : α → Bool} {xs : List α} (i : Nat) : ((xs.take i).filter p).length ≤ xs.length := Nat.le_trans (List.length_filter_le _ _) (by simp; omega)
theorem len_take_le {xs : List α} (i : Nat) : (xs.take i).length ≤ xs.length := by simp; omega
end
def S_slices_Clone_S_int_int_ : Sum := { fid := 257, dom := [s22], cod := [s22], dp := true, fz := false, pre := fun x => (lenOK (α := Int)) x.1, g := fun x => (((idL (α := Int)) x.1), ()) }
def S_slices_Clone_S_int_int__tab : List (Nat × Sum) := []
theorem S_slices_Clone_S_int_int__ok : FnOK Try.prog 257 S_slices_Clone_S_int_int_ := by
 refine at_enter 8 (fun x => ⟨[(0, aF (.int 3) x.1)], []⟩) Try.func257 rfl (by kernel_rfl) (fun x => rfl) ?_
 rintro w0 Z0 ⟨x0, u⟩ a w
 revert x0
 intro (x0 : (List Int)) hpre hlens h
 replace h : At w0 Z0 [] 8 ⟨[(0, aF (.int 3) x0)], []⟩ a w := h
 replace hpre : (lenOK (α := Int)) x0 := hpre
 have hl1 : List.length x0 ≤ 9223372036854775807 := hlens.1.1
 have hT : TabOK Try.prog S_slices_Clone_S_int_int__tab := .nil
 have hp : List.length x0 ≤ 1073741824 := hpre
 refine wp_seq ?_
 refine at_regq [] { ts := [0, 2], os := [] } [] gamOK hT h (by kernel_rfl) trivial fun a w h => then_normal (wp_seq (wp_seq ?_))
 refine at_regq [] { ts := [0, 2, 4], os := [] } [] gamOK hT h (by kernel_rfl) trivial fun a w h => then_normal ?_
 refine at_nil (List.length x0) h (by kernel_rfl) (fun h1 => ?_) ?_
 ·refine wp_seq ?_
  refine at_regq [] { ts := [0, 2], os := [] } [] gamOK hT h (by kernel_rfl) trivial fun a w h => then_normal (wp_ret (then_ret ?_))
  exact at_return (S := S_slices_Clone_S_int_int_) (x := (x0, ())) (([] : List Int), ()) [] h (by kernel_rfl) trivial (congrArg (fun z => (z, ())) (show (([] : List Int)) = (idL (α := Int)) x0 from by (show [] = x0; exact (List.eq_nil_of_length_eq_zero h1).symm)))
 ·refine wp_skip (then_normal (wp_seq ?_))
  refine at_regq [{ ids := [1] }, {}, { ids := [2] }] { ts := [2], os := [2] } [(List.length ([] : List Int) + List.length x0) * 8 ≤ 140737488355328] gamOK hT h (by kernel_rfl) ⟨(by first | omega | (simp only [lsA]; omega) | (simp <;> omega)), trivial⟩ fun a w h => then_normal (wp_ret ?_)
  exact at_return (S := S_slices_Clone_S_int_int_) (x := (x0, ())) ((([] : List Int) ++ x0), ()) [] h (by kernel_rfl) trivial (congrArg (fun z => (z, ())) (show ((([] : List Int) ++ x0)) = (idL (α := Int)) x0 from by (show [] ++ x0 = x0; rfl)))

def S_impl_InRange : Sum := { fid := 107, dom := [(.int 3), (.int 3), (.int 3)], cod := [(.bool 4)], dp := true, fz := false, pre := fun x => True, g := fun x => ((inR x.1 x.2.1 x.2.2.1), ()) }
def S_impl_InRange_tab : List (Nat × Sum) := []
theorem S_impl_InRange_ok : FnOK Try.prog 107 S_impl_InRange := by
 refine at_enter 15 (fun x => ⟨[(0, aI x.1), (1, aI x.2.1), (2, aI x.2.2.1)], []⟩) Try.func107 rfl (by kernel_rfl) (fun x => rfl) ?_
 rintro w0 Z0 ⟨x0, x1, x2, u⟩ a w
 revert x0 x1 x2
 intro (x0 : Int) (x1 : Int) (x2 : Int) hpre hlens h
 replace h : At w0 Z0 [] 15 ⟨[(0, aI x0), (1, aI x1), (2, aI x2)], []⟩ a w := h
 have hT : TabOK Try.prog S_impl_InRange_tab := .nil
 refine wp_seq ?_
 refine at_regq [] { ts := [0, 1, 2, 6], os := [] } [] gamOK hT h (by kernel_rfl) trivial fun a w h => then_normal (wp_seq ?_)
 by_cases h1 : x1 ≤ x0
 ·refine at_regq [{}, {}, { hint := some (aB true) }] { ts := [6], os := [] } [(AV.p (.c (.v (.bool (decide (x1 ≤ x0))))) = AV.p (.c (.v (.bool true))))] gamOK hT h (by kernel_rfl) ⟨hint_bool (decide_eq_true h1), trivial⟩ fun a w h => then_normal (wp_ret ?_)
  exact at_return (S := S_impl_InRange) (x := (x0, x1, x2, ())) (decide (x0 ≤ x2), ()) [] h (by kernel_rfl) trivial (congrArg (fun z => (z, ())) (show (decide (x0 ≤ x2)) = inR x0 x1 x2 from by (unfold inR; simp [*]; done)))
 ·refine at_regq [{}, {}, { hint := some (aB false) }] { ts := [6], os := [] } [(AV.p (.c (.v (.bool (decide (x1 ≤ x0))))) = AV.p (.c (.v (.bool false))))] gamOK hT h (by kernel_rfl) ⟨hint_bool (decide_eq_false h1), trivial⟩ fun a w h => then_normal (wp_ret ?_)
  exact at_return (S := S_impl_InRange) (x := (x0, x1, x2, ())) (false, ()) [] h (by kernel_rfl) trivial (congrArg (fun z => (z, ())) (show (false) = inR x0 x1 x2 from by (unfold inR; simp [*]; done)))

def S_spec_l1In : Sum := { fid := 103, dom := [(.int 3), (.int 3), (.int 3)], cod := [(.bool 4)], dp := true, fz := false, pre := fun x => True, g := fun x => ((inR x.1 x.2.1 x.2.2.1), ()) }
def S_spec_l1In_tab : List (Nat × Sum) := []
theorem S_spec_l1In_ok : FnOK Try.prog 103 S_spec_l1In := by
 refine at_enter 15 (fun x => ⟨[(0, aI x.1), (1, aI x.2.1), (2, aI x.2.2.1)], []⟩) Try.func103 rfl (by kernel_rfl) (fun x => rfl) ?_
 rintro w0 Z0 ⟨x0, x1, x2, u⟩ a w
 revert x0 x1 x2
 intro (x0 : Int) (x1 : Int) (x2 : Int) hpre hlens h
 replace h : At w0 Z0 [] 15 ⟨[(0, aI x0), (1, aI x1), (2, aI x2)], []⟩ a w := h
 have hT : TabOK Try.prog S_spec_l1In_tab := .nil
 refine wp_seq ?_
 refine at_regq [] { ts := [0, 1, 2, 6], os := [] } [] gamOK hT h (by kernel_rfl) trivial fun a w h => then_normal (wp_seq ?_)
 by_cases h1 : x0 ≥ x1
 ·refine at_regq [{}, {}, { hint := some (aB true) }] { ts := [6], os := [] } [(AV.p (.c (.v (.bool (decide (x0 ≥ x1))))) = AV.p (.c (.v (.bool true))))] gamOK hT h (by kernel_rfl) ⟨hint_bool (decide_eq_true h1), trivial⟩ fun a w h => then_normal (wp_ret ?_)
  exact at_return (S := S_spec_l1In) (x := (x0, x1, x2, ())) (decide (x0 ≤ x2), ()) [] h (by kernel_rfl) trivial (congrArg (fun z => (z, ())) (show (decide (x0 ≤ x2)) = inR x0 x1 x2 from by (unfold inR; first | (simp only [ge_iff_le] at *; simp [*]; done) | (rw [decide_eq_false]; omega))))
 ·refine at_regq [{}, {}, { hint := some (aB false) }] { ts := [6], os := [] } [(AV.p (.c (.v (.bool (decide (x0 ≥ x1))))) = AV.p (.c (.v (.bool false))))] gamOK hT h (by kernel_rfl) ⟨hint_bool (decide_eq_false h1), trivial⟩ fun a w h => then_normal (wp_ret ?_)
  exact at_return (S := S_spec_l1In) (x := (x0, x1, x2, ())) (false, ()) [] h (by kernel_rfl) trivial (congrArg (fun z => (z, ())) (show (false) = inR x0 x1 x2 from by (unfold inR; first | (simp only [ge_iff_le] at *; simp [*]; done) | (rw [decide_eq_false]; omega))))

def isEl (x0 : Int) : Bool := (inR x0 0 1018)
def S_impl_IsElement : Sum := { fid := 305, dom := [(.int 3)], cod := [(.bool 4)], dp := true, fz := false, pre := fun x => True, g := fun x => ((isEl x.1), ()) }
def S_impl_IsElement_tab : List (Nat × Sum) := [(107, S_impl_InRange)]
theorem S_impl_IsElement_ok : FnOK Try.prog 305 S_impl_IsElement := by
 refine at_enter 5 (fun x => ⟨[(0, aI x.1)], []⟩) Try.func305 rfl (by kernel_rfl) (fun x => rfl) ?_
 rintro w0 Z0 ⟨x0, u⟩ a w
 revert x0
 intro (x0 : Int) hpre hlens h
 replace h : At w0 Z0 [] 5 ⟨[(0, aI x0)], []⟩ a w := h
 have hT : TabOK Try.prog S_impl_IsElement_tab := (.cons S_impl_InRange_ok .nil)
 refine wp_seq ?_
 refine at_regq [] { ts := [0, 2], os := [] } [] gamOK hT h (by kernel_rfl) trivial fun a w h => then_normal (wp_seq ?_)
 refine at_regq [] { ts := [2], os := [] } [True] gamOK hT h (by kernel_rfl) ⟨trivial, trivial⟩ fun a w h => then_normal (wp_ret ?_)
 exact at_return (S := S_impl_IsElement) (x := (x0, ())) ((inR x0 0 1018), ()) [] h (by kernel_rfl) trivial (congrArg (fun z => (z, ())) (show ((inR x0 0 1018)) = isEl x0 from by rfl))
theorem isEl_t {x : Int} (h : isEl x = true) : 0 ≤ x ∧ x ≤ 1018 := inR_t h

def S_spec_IsElement : Sum := { fid := 288, dom := [(.int 3)], cod := [(.bool 4)], dp := true, fz := false, pre := fun x => True, g := fun x => ((isEl x.1), ()) }
def S_spec_IsElement_tab : List (Nat × Sum) := [(103, S_spec_l1In)]
theorem S_spec_IsElement_ok : FnOK Try.prog 288 S_spec_IsElement := by
 refine at_enter 5 (fun x => ⟨[(0, aI x.1)], []⟩) Try.func288 rfl (by kernel_rfl) (fun x => rfl) ?_
 rintro w0 Z0 ⟨x0, u⟩ a w
 revert x0
 intro (x0 : Int) hpre hlens h
 replace h : At w0 Z0 [] 5 ⟨[(0, aI x0)], []⟩ a w := h
 have hT : TabOK Try.prog S_spec_IsElement_tab := (.cons S_spec_l1In_ok .nil)
 refine wp_seq ?_
 refine at_regq [] { ts := [0, 2], os := [] } [] gamOK hT h (by kernel_rfl) trivial fun a w h => then_normal (wp_seq ?_)
 refine at_regq [] { ts := [2], os := [] } [True] gamOK hT h (by kernel_rfl) ⟨trivial, trivial⟩ fun a w h => then_normal (wp_ret ?_)
 exact at_return (S := S_spec_IsElement) (x := (x0, ())) ((inR x0 0 1018), ()) [] h (by kernel_rfl) trivial (congrArg (fun z => (z, ())) (show ((inR x0 0 1018)) = isEl x0 from by first | rfl | (unfold isEl; rfl; done) | (unfold isEl; simp_all)))

def S_laws_eqIntS : Sum := { fid := 88, dom := [s22, s22], cod := [(.bool 4)], dp := true, fz := false, pre := fun x => True, g := fun x => (((Sh.eqB s22) x.1 x.2.1), ()) }
def S_laws_eqIntS_tab : List (Nat × Sum) := []
theorem S_laws_eqIntS_ok : FnOK Try.prog 88 S_laws_eqIntS := by
 refine at_enter 26 (fun x => ⟨[(0, aF (.int 3) x.1), (1, aF (.int 3) x.2.1)], []⟩) Try.func88 rfl (by kernel_rfl) (fun x => rfl) ?_
 rintro w0 Z0 ⟨x0, x1, u⟩ a w
 revert x0 x1
 intro (x0 : (List Int)) (x1 : (List Int)) hpre hlens h
 replace h : At w0 Z0 [] 26 ⟨[(0, aF (.int 3) x0), (1, aF (.int 3) x1)], []⟩ a w := h
 have hl1 : List.length x0 ≤ 9223372036854775807 := hlens.1.1
 have hl2 : List.length x1 ≤ 9223372036854775807 := hlens.2.1.1
 have hT : TabOK Try.prog S_laws_eqIntS_tab := .nil
 refine wp_seq ?_
 refine at_regq [] { ts := [0, 1, 4], os := [] } [] gamOK hT h (by kernel_rfl) trivial fun a w h => then_normal (wp_seq (wp_seq ?_))
 refine at_regq [] { ts := [0, 1, 4, 10], os := [] } [] gamOK hT h (by kernel_rfl) trivial fun a w h => then_normal ?_
 refine at_test (!decide (((List.length x0 : Nat) : Int) = ((List.length x1 : Nat) : Int))) h (by kernel_rfl) (fun h1 => ?_) (fun h1 => ?_)
 ·replace h1 : ¬ (((List.length x0 : Nat) : Int) = ((List.length x1 : Nat) : Int)) := of_decide_eq_false (notT h1)
  refine wp_seq ?_
  refine at_regq [] { ts := [0, 1, 4], os := [] } [] gamOK hT h (by kernel_rfl) trivial fun a w h => then_normal (wp_ret (then_ret ?_))
  exact at_return (S := S_laws_eqIntS) (x := (x0, x1, ())) (false, ()) [] h (by kernel_rfl) trivial (congrArg (fun z => (z, ())) (show (false) = (Sh.eqB s22) x0 x1 from by exact (Sh.eqB_ne (fun e => h1 (by rw [e]))).symm))
 ·replace h1 : ((List.length x0 : Nat) : Int) = ((List.length x1 : Nat) : Int) := of_decide_eq_true (notF h1)
  refine wp_skip (then_normal (wp_seq (wp_seq ?_)))
  refine at_regq [] { ts := [0, 1, 4, 5], os := [] } [] gamOK hT h (by kernel_rfl) trivial fun a w h => then_normal (wp_block ?_)
  replace h := at_out (σ' := ⟨[(0, aF (.int 3) x0), (1, aF (.int 3) x1), (4, aB false), (5, aI 0)], []⟩) { ts := [0, 1, 4, 5], os := [] } h (by kernel_rfl)
  refine at_loop (fun i : Nat => (⟨[(0, aF (.int 3) x0), (1, aF (.int 3) x1), (4, aB false), (5, aI ((i : Nat) : Int))], []⟩ : St)) (fun i => (i ≤ List.length x0 ∧ x0.take i = x1.take i)) (fun i => List.length x0 - i) (0) h (st_congr1 (fun (d0 : Int) => (⟨[(0, aF (.int 3) x0), (1, aF (.int 3) x1), (4, aB false), (5, aI d0)], []⟩ : St)) (show (0 : Int) = (((0) : Nat) : Int) from by first | with_reducible rfl | (rfl) | rfl)) (by exact ⟨Nat.zero_le _, rfl⟩) ?_
  intro i a w hok0 h
  refine wp_seq (wp_seq ?_)
  refine at_regq [] { ts := [0, 1, 4, 5, 14], os := [] } [] gamOK hT h (by kernel_rfl) trivial fun a w h => then_normal ?_
  refine at_test (decide (((i : Nat) : Int) < ((List.length x0 : Nat) : Int))) h (by kernel_rfl) (fun h2 => ?_) (fun h2 => ?_)
  ·replace h2 : ((i : Nat) : Int) < ((List.length x0 : Nat) : Int) := of_decide_eq_true h2
   refine wp_skip (then_normal (wp_seq (wp_block (wp_seq ?_))))
   refine at_anyq [{}, {}, {}, {}, {}, {}, {}, {}, {}] { ts := [0, 1, 4, 5, 25], os := [] } [(0 : Int) ≤ ((i : Nat) : Int) ∧ ((i : Nat) : Int) < ((List.length x0 : Nat) : Int), (0 : Int) ≤ ((i : Nat) : Int) ∧ ((i : Nat) : Int) < ((List.length x1 : Nat) : Int)] gamOK hT mixed h (by kernel_rfl) ⟨(by refine ⟨?_, ?_⟩ <;> (first | omega | (simp only [lsA]; omega) | (simp <;> omega))), (by refine ⟨?_, ?_⟩ <;> (first | omega | (simp only [lsA]; omega) | (simp <;> omega))), trivial⟩ fun a w h => then_normal ?_
   refine at_test (!decide ((x0.getD i 0) = (x1.getD i 0))) h (by kernel_rfl) (fun h3 => ?_) (fun h3 => ?_)
   ·replace h3 : ¬ ((x0.getD i 0) = (x1.getD i 0)) := of_decide_eq_false (notT h3)
    refine wp_seq ?_
    refine at_regq [] { ts := [0, 1, 4, 5], os := [] } [] gamOK hT h (by kernel_rfl) trivial fun a w h => then_normal (wp_ret (in_ret (then_ret (then_ret (in_ret (then_ret ?_))))))
    exact at_return (S := S_laws_eqIntS) (x := (x0, x1, ())) (false, ()) [] h (by kernel_rfl) trivial (congrArg (fun z => (z, ())) (show (false) = (Sh.eqB s22) x0 x1 from by exact (Sh.eqB_ne (s := s22) (fun e => h3 (by rw [e]))).symm))
   ·replace h3 : (x0.getD i 0) = (x1.getD i 0) := of_decide_eq_true (notF h3)
    refine wp_skip (in_normal (then_normal ?_))
    refine at_regq [{}, { nw := true }] { ts := [0, 1, 4, 5], os := [] } [I64 (((i : Nat) : Int) + 1)] gamOK hT h (by kernel_rfl) ⟨⟨by first | omega | (simp only [lsA]; omega) | (simp <;> omega), by first | omega | (simp only [lsA]; omega) | (simp <;> omega)⟩, trivial⟩ fun a w h => ?_
    replace h := at_out (σ' := ⟨[(0, aF (.int 3) x0), (1, aF (.int 3) x1), (4, aB false), (5, aI (((i : Nat) : Int) + 1))], []⟩) { ts := [0, 1, 4, 5], os := [] } h (by kernel_rfl)
    exact ⟨i + 1, at_eq h (st_congr1 (fun (d0 : Int) => (⟨[(0, aF (.int 3) x0), (1, aF (.int 3) x1), (4, aB false), (5, aI d0)], []⟩ : St)) (show (((i : Nat) : Int) + 1 : Int) = (((i + 1) : Nat) : Int) from by first | with_reducible rfl | (omega) | rfl)), (by exact ⟨by omega, eqTo_step (z := 0) (by omega) (by omega) hok0.2 h3⟩), (by omega)⟩
  ·replace h2 : ¬ (((i : Nat) : Int) < ((List.length x0 : Nat) : Int)) := of_decide_eq_false h2
   refine wp_exit (then_exit (then_exit (in_hit (then_normal (wp_seq ?_)))))
   refine at_regq [] { ts := [4], os := [] } [] gamOK hT h (by kernel_rfl) trivial fun a w h => then_normal (wp_ret ?_)
   exact at_return (S := S_laws_eqIntS) (x := (x0, x1, ())) (true, ()) [] h (by kernel_rfl) trivial (congrArg (fun z => (z, ())) (show (true) = (Sh.eqB s22) x0 x1 from by (have e := hok0.2; rw [take_all (by omega), take_all (by omega)] at e; exact ((Sh.eqB_iff s22).2 e).symm)))

def S_laws_eqIntSS : Sum := { fid := 137, dom := [s97, s97], cod := [(.bool 4)], dp := true, fz := false, pre := fun x => True, g := fun x => (((Sh.eqB s97) x.1 x.2.1), ()) }
def S_laws_eqIntSS_tab : List (Nat × Sum) := [(88, S_laws_eqIntS)]
theorem S_laws_eqIntSS_ok : FnOK Try.prog 137 S_laws_eqIntSS := by
 refine at_enter 27 (fun x => ⟨[(0, aF s22 x.1), (1, aF s22 x.2.1)], []⟩) Try.func137 rfl (by kernel_rfl) (fun x => rfl) ?_
 rintro w0 Z0 ⟨x0, x1, u⟩ a w
 revert x0 x1
 intro (x0 : (List (List Int))) (x1 : (List (List Int))) hpre hlens h
 replace h : At w0 Z0 [] 27 ⟨[(0, aF s22 x0), (1, aF s22 x1)], []⟩ a w := h
 have hl1 : List.length x0 ≤ 9223372036854775807 := hlens.1.1
 have hl2 : List.length x1 ≤ 9223372036854775807 := hlens.2.1.1
 have hT : TabOK Try.prog S_laws_eqIntSS_tab := (.cons S_laws_eqIntS_ok .nil)
 refine wp_seq ?_
 refine at_regq [] { ts := [0, 1, 4], os := [] } [] gamOK hT h (by kernel_rfl) trivial fun a w h => then_normal (wp_seq (wp_seq ?_))
 refine at_regq [] { ts := [0, 1, 4, 10], os := [] } [] gamOK hT h (by kernel_rfl) trivial fun a w h => then_normal ?_
 refine at_test (!decide (((List.length x0 : Nat) : Int) = ((List.length x1 : Nat) : Int))) h (by kernel_rfl) (fun h1 => ?_) (fun h1 => ?_)
 ·replace h1 : ¬ (((List.length x0 : Nat) : Int) = ((List.length x1 : Nat) : Int)) := of_decide_eq_false (notT h1)
  refine wp_seq ?_
  refine at_regq [] { ts := [0, 1, 4], os := [] } [] gamOK hT h (by kernel_rfl) trivial fun a w h => then_normal (wp_ret (then_ret ?_))
  exact at_return (S := S_laws_eqIntSS) (x := (x0, x1, ())) (false, ()) [] h (by kernel_rfl) trivial (congrArg (fun z => (z, ())) (show (false) = (Sh.eqB s97) x0 x1 from by exact (Sh.eqB_ne (fun e => h1 (by rw [e]))).symm))
 ·replace h1 : ((List.length x0 : Nat) : Int) = ((List.length x1 : Nat) : Int) := of_decide_eq_true (notF h1)
  refine wp_skip (then_normal (wp_seq (wp_seq ?_)))
  refine at_regq [] { ts := [0, 1, 4, 5], os := [] } [] gamOK hT h (by kernel_rfl) trivial fun a w h => then_normal (wp_block ?_)
  replace h := at_out (σ' := ⟨[(0, aF s22 x0), (1, aF s22 x1), (4, aB false), (5, aI 0)], []⟩) { ts := [0, 1, 4, 5], os := [] } h (by kernel_rfl)
  refine at_loop (fun i : Nat => (⟨[(0, aF s22 x0), (1, aF s22 x1), (4, aB false), (5, aI ((i : Nat) : Int))], []⟩ : St)) (fun i => (i ≤ List.length x0 ∧ x0.take i = x1.take i)) (fun i => List.length x0 - i) (0) h (st_congr1 (fun (d0 : Int) => (⟨[(0, aF s22 x0), (1, aF s22 x1), (4, aB false), (5, aI d0)], []⟩ : St)) (show (0 : Int) = (((0) : Nat) : Int) from by first | with_reducible rfl | (rfl) | rfl)) (by exact ⟨Nat.zero_le _, rfl⟩) ?_
  intro i a w hok0 h
  refine wp_seq (wp_seq ?_)
  refine at_regq [] { ts := [0, 1, 4, 5, 14], os := [] } [] gamOK hT h (by kernel_rfl) trivial fun a w h => then_normal ?_
  refine at_test (decide (((i : Nat) : Int) < ((List.length x0 : Nat) : Int))) h (by kernel_rfl) (fun h2 => ?_) (fun h2 => ?_)
  ·replace h2 : ((i : Nat) : Int) < ((List.length x0 : Nat) : Int) := of_decide_eq_true h2
   refine wp_skip (then_normal (wp_seq (wp_block (wp_seq ?_))))
   refine at_anyq [{}, {}, {}, {}, {}, {}, {}, {}, {}, {}] { ts := [0, 1, 4, 5, 26], os := [] } [(0 : Int) ≤ ((i : Nat) : Int) ∧ ((i : Nat) : Int) < ((List.length x0 : Nat) : Int), (0 : Int) ≤ ((i : Nat) : Int) ∧ ((i : Nat) : Int) < ((List.length x1 : Nat) : Int), True] gamOK hT mixed h (by kernel_rfl) ⟨(by refine ⟨?_, ?_⟩ <;> (first | omega | (simp only [lsA]; omega) | (simp <;> omega))), (by refine ⟨?_, ?_⟩ <;> (first | omega | (simp only [lsA]; omega) | (simp <;> omega))), trivial, trivial⟩ fun a w h => then_normal ?_
   refine at_test (!((Sh.eqB s22) (x0.getD i []) (x1.getD i []))) h (by kernel_rfl) (fun h3 => ?_) (fun h3 => ?_)
   ·replace h3 : ((Sh.eqB s22) (x0.getD i []) (x1.getD i [])) = false := notT h3
    refine wp_seq ?_
    refine at_regq [] { ts := [0, 1, 4, 5], os := [] } [] gamOK hT h (by kernel_rfl) trivial fun a w h => then_normal (wp_ret (in_ret (then_ret (then_ret (in_ret (then_ret ?_))))))
    exact at_return (S := S_laws_eqIntSS) (x := (x0, x1, ())) (false, ()) [] h (by kernel_rfl) trivial (congrArg (fun z => (z, ())) (show (false) = (Sh.eqB s97) x0 x1 from by exact (Sh.eqB_ne (s := s97) (fun e => Sh.of_eqB_ne h3 (by rw [e]))).symm))
   ·replace h3 : ((Sh.eqB s22) (x0.getD i []) (x1.getD i [])) = true := notF h3
    refine wp_skip (in_normal (then_normal ?_))
    refine at_regq [{}, { nw := true }] { ts := [0, 1, 4, 5], os := [] } [I64 (((i : Nat) : Int) + 1)] gamOK hT h (by kernel_rfl) ⟨⟨by first | omega | (simp only [lsA]; omega) | (simp <;> omega), by first | omega | (simp only [lsA]; omega) | (simp <;> omega)⟩, trivial⟩ fun a w h => ?_
    replace h := at_out (σ' := ⟨[(0, aF s22 x0), (1, aF s22 x1), (4, aB false), (5, aI (((i : Nat) : Int) + 1))], []⟩) { ts := [0, 1, 4, 5], os := [] } h (by kernel_rfl)
    exact ⟨i + 1, at_eq h (st_congr1 (fun (d0 : Int) => (⟨[(0, aF s22 x0), (1, aF s22 x1), (4, aB false), (5, aI d0)], []⟩ : St)) (show (((i : Nat) : Int) + 1 : Int) = (((i + 1) : Nat) : Int) from by first | with_reducible rfl | (omega) | rfl)), (by exact ⟨by omega, eqTo_step (z := []) (by omega) (by omega) hok0.2 (Sh.of_eqB h3)⟩), (by omega)⟩
  ·replace h2 : ¬ (((i : Nat) : Int) < ((List.length x0 : Nat) : Int)) := of_decide_eq_false h2
   refine wp_exit (then_exit (then_exit (in_hit (then_normal (wp_seq ?_)))))
   refine at_regq [] { ts := [4], os := [] } [] gamOK hT h (by kernel_rfl) trivial fun a w h => then_normal (wp_ret ?_)
   exact at_return (S := S_laws_eqIntSS) (x := (x0, x1, ())) (true, ()) [] h (by kernel_rfl) trivial (congrArg (fun z => (z, ())) (show (true) = (Sh.eqB s97) x0 x1 from by (have e := hok0.2; rw [take_all (by omega), take_all (by omega)] at e; exact ((Sh.eqB_iff s97).2 e).symm)))

def S_laws_eqCodedPacket : Sum := { fid := 59, dom := [s61, s61], cod := [(.bool 4)], dp := true, fz := false, pre := fun x => True, g := fun x => (((Sh.eqB s61) x.1 x.2.1), ()) }
def S_laws_eqCodedPacket_tab : List (Nat × Sum) := [(88, S_laws_eqIntS)]
theorem S_laws_eqCodedPacket_ok : FnOK Try.prog 59 S_laws_eqCodedPacket := by
 refine at_enter 22 (fun x => ⟨[(0, aG [cI x.1.1, .ro (.int 3) x.1.2.1, .ro (.int 3) x.1.2.2]), (1, aG [cI x.2.1.1, .ro (.int 3) x.2.1.2.1, .ro (.int 3) x.2.1.2.2])], []⟩) Try.func59 rfl (by kernel_rfl) (fun x => rfl) ?_
 rintro w0 Z0 ⟨x0, x1, u⟩ a w
 revert x0 x1
 intro (x0 : T61) (x1 : T61) hpre hlens h
 replace h : At w0 Z0 [] 22 ⟨[(0, aG [cI x0.1, .ro (.int 3) x0.2.1, .ro (.int 3) x0.2.2]), (1, aG [cI x1.1, .ro (.int 3) x1.2.1, .ro (.int 3) x1.2.2])], []⟩ a w := h
 have hl1 : List.length x0.2.1 ≤ 9223372036854775807 := hlens.1.2.1.1
 have hl2 : List.length x0.2.2 ≤ 9223372036854775807 := hlens.1.2.2.1
 have hl3 : List.length x1.2.1 ≤ 9223372036854775807 := hlens.2.1.2.1.1
 have hl4 : List.length x1.2.2 ≤ 9223372036854775807 := hlens.2.1.2.2.1
 have hT : TabOK Try.prog S_laws_eqCodedPacket_tab := (.cons S_laws_eqIntS_ok .nil)
 refine wp_seq ?_
 refine at_regq [{ ids := [1] }, { ids := [2] }] { ts := [2, 3, 4], os := [1, 2] } [] gamOK hT h (by kernel_rfl) trivial fun a w h => then_normal (wp_seq (wp_seq ?_))
 refine at_regq [] { ts := [2, 3, 4, 9], os := [1, 2] } [] gamOK hT h (by kernel_rfl) trivial fun a w h => then_normal ?_
 refine at_test (!decide (x0.1 = x1.1)) h (by kernel_rfl) (fun h1 => ?_) (fun h1 => ?_)
 ·replace h1 : ¬ (x0.1 = x1.1) := of_decide_eq_false (notT h1)
  refine wp_seq ?_
  refine at_regq [] { ts := [2, 3, 4], os := [1, 2] } [] gamOK hT h (by kernel_rfl) trivial fun a w h => then_normal (wp_ret (then_ret ?_))
  exact at_return (S := S_laws_eqCodedPacket) (x := (x0, x1, ())) (false, ()) [] h (by kernel_rfl) trivial (congrArg (fun z => (z, ())) (show (false) = (Sh.eqB s61) x0 x1 from by exact (Sh.eqB_ne (s := s61) (fun e => h1 (congrArg (fun (y : T61) => y.1) e))).symm))
 ·replace h1 : x0.1 = x1.1 := of_decide_eq_true (notF h1)
  refine wp_skip (then_normal (wp_seq (wp_seq ?_)))
  refine at_regq [] { ts := [2, 3, 4, 15], os := [1, 2] } [True] gamOK hT h (by kernel_rfl) ⟨trivial, trivial⟩ fun a w h => then_normal ?_
  refine at_test (!((Sh.eqB s22) x0.2.1 x1.2.1)) h (by kernel_rfl) (fun h2 => ?_) (fun h2 => ?_)
  ·replace h2 : ((Sh.eqB s22) x0.2.1 x1.2.1) = false := notT h2
   refine wp_seq ?_
   refine at_regq [] { ts := [2, 3, 4], os := [1, 2] } [] gamOK hT h (by kernel_rfl) trivial fun a w h => then_normal (wp_ret (then_ret ?_))
   exact at_return (S := S_laws_eqCodedPacket) (x := (x0, x1, ())) (false, ()) [] h (by kernel_rfl) trivial (congrArg (fun z => (z, ())) (show (false) = (Sh.eqB s61) x0 x1 from by exact (Sh.eqB_ne (s := s61) (fun e => Sh.of_eqB_ne h2 (congrArg (fun (y : T61) => y.2.1) e))).symm))
  ·replace h2 : ((Sh.eqB s22) x0.2.1 x1.2.1) = true := notF h2
   refine wp_skip (then_normal (wp_seq (wp_seq ?_)))
   refine at_regq [] { ts := [4, 21], os := [] } [True] gamOK hT h (by kernel_rfl) ⟨trivial, trivial⟩ fun a w h => then_normal ?_
   refine at_test (!((Sh.eqB s22) x0.2.2 x1.2.2)) h (by kernel_rfl) (fun h3 => ?_) (fun h3 => ?_)
   ·replace h3 : ((Sh.eqB s22) x0.2.2 x1.2.2) = false := notT h3
    refine wp_seq ?_
    refine at_regq [] { ts := [4], os := [] } [] gamOK hT h (by kernel_rfl) trivial fun a w h => then_normal (wp_ret (then_ret ?_))
    exact at_return (S := S_laws_eqCodedPacket) (x := (x0, x1, ())) (false, ()) [] h (by kernel_rfl) trivial (congrArg (fun z => (z, ())) (show (false) = (Sh.eqB s61) x0 x1 from by exact (Sh.eqB_ne (s := s61) (fun e => Sh.of_eqB_ne h3 (congrArg (fun (y : T61) => y.2.2) e))).symm))
   ·replace h3 : ((Sh.eqB s22) x0.2.2 x1.2.2) = true := notF h3
    refine wp_skip (then_normal (wp_seq ?_))
    refine at_regq [] { ts := [4], os := [] } [] gamOK hT h (by kernel_rfl) trivial fun a w h => then_normal (wp_ret ?_)
    exact at_return (S := S_laws_eqCodedPacket) (x := (x0, x1, ())) (true, ()) [] h (by kernel_rfl) trivial (congrArg (fun z => (z, ())) (show (true) = (Sh.eqB s61) x0 x1 from by exact ((Sh.eqB_iff s61).2 (Prod.ext h1 (Prod.ext (Sh.of_eqB h2) (Sh.of_eqB h3)))).symm))

def S_laws_eqCodedPacketS : Sum := { fid := 159, dom := [s126, s126], cod := [(.bool 4)], dp := true, fz := false, pre := fun x => True, g := fun x => (((Sh.eqB s126) x.1 x.2.1), ()) }
def S_laws_eqCodedPacketS_tab : List (Nat × Sum) := [(59, S_laws_eqCodedPacket)]
theorem S_laws_eqCodedPacketS_ok : FnOK Try.prog 159 S_laws_eqCodedPacketS := by
 refine at_enter 27 (fun x => ⟨[(0, aF s61 x.1), (1, aF s61 x.2.1)], []⟩) Try.func159 rfl (by kernel_rfl) (fun x => rfl) ?_
 rintro w0 Z0 ⟨x0, x1, u⟩ a w
 revert x0 x1
 intro (x0 : (List T61)) (x1 : (List T61)) hpre hlens h
 replace h : At w0 Z0 [] 27 ⟨[(0, aF s61 x0), (1, aF s61 x1)], []⟩ a w := h
 have hl1 : List.length x0 ≤ 9223372036854775807 := hlens.1.1
 have hl2 : List.length x1 ≤ 9223372036854775807 := hlens.2.1.1
 have hT : TabOK Try.prog S_laws_eqCodedPacketS_tab := (.cons S_laws_eqCodedPacket_ok .nil)
 refine wp_seq ?_
 refine at_regq [] { ts := [0, 1, 4], os := [] } [] gamOK hT h (by kernel_rfl) trivial fun a w h => then_normal (wp_seq (wp_seq ?_))
 refine at_regq [] { ts := [0, 1, 4, 10], os := [] } [] gamOK hT h (by kernel_rfl) trivial fun a w h => then_normal ?_
 refine at_test (!decide (((List.length x0 : Nat) : Int) = ((List.length x1 : Nat) : Int))) h (by kernel_rfl) (fun h1 => ?_) (fun h1 => ?_)
 ·replace h1 : ¬ (((List.length x0 : Nat) : Int) = ((List.length x1 : Nat) : Int)) := of_decide_eq_false (notT h1)
  refine wp_seq ?_
  refine at_regq [] { ts := [0, 1, 4], os := [] } [] gamOK hT h (by kernel_rfl) trivial fun a w h => then_normal (wp_ret (then_ret ?_))
  exact at_return (S := S_laws_eqCodedPacketS) (x := (x0, x1, ())) (false, ()) [] h (by kernel_rfl) trivial (congrArg (fun z => (z, ())) (show (false) = (Sh.eqB s126) x0 x1 from by exact (Sh.eqB_ne (fun e => h1 (by rw [e]))).symm))
 ·replace h1 : ((List.length x0 : Nat) : Int) = ((List.length x1 : Nat) : Int) := of_decide_eq_true (notF h1)
  refine wp_skip (then_normal (wp_seq (wp_seq ?_)))
  refine at_regq [] { ts := [0, 1, 4, 5], os := [] } [] gamOK hT h (by kernel_rfl) trivial fun a w h => then_normal (wp_block ?_)
  replace h := at_out (σ' := ⟨[(0, aF s61 x0), (1, aF s61 x1), (4, aB false), (5, aI 0)], []⟩) { ts := [0, 1, 4, 5], os := [] } h (by kernel_rfl)
  refine at_loop (fun i : Nat => (⟨[(0, aF s61 x0), (1, aF s61 x1), (4, aB false), (5, aI ((i : Nat) : Int))], []⟩ : St)) (fun i => (i ≤ List.length x0 ∧ x0.take i = x1.take i)) (fun i => List.length x0 - i) (0) h (st_congr1 (fun (d0 : Int) => (⟨[(0, aF s61 x0), (1, aF s61 x1), (4, aB false), (5, aI d0)], []⟩ : St)) (show (0 : Int) = (((0) : Nat) : Int) from by first | with_reducible rfl | (rfl) | rfl)) (by exact ⟨Nat.zero_le _, rfl⟩) ?_
  intro i a w hok0 h
  refine wp_seq (wp_seq ?_)
  refine at_regq [] { ts := [0, 1, 4, 5, 14], os := [] } [] gamOK hT h (by kernel_rfl) trivial fun a w h => then_normal ?_
  refine at_test (decide (((i : Nat) : Int) < ((List.length x0 : Nat) : Int))) h (by kernel_rfl) (fun h2 => ?_) (fun h2 => ?_)
  ·replace h2 : ((i : Nat) : Int) < ((List.length x0 : Nat) : Int) := of_decide_eq_true h2
   refine wp_skip (then_normal (wp_seq (wp_block (wp_seq ?_))))
   refine at_anyq [{}, {}, {}, {}, {}, {}, {}, {}, {}, {}] { ts := [0, 1, 4, 5, 26], os := [] } [(0 : Int) ≤ ((i : Nat) : Int) ∧ ((i : Nat) : Int) < ((List.length x0 : Nat) : Int), (0 : Int) ≤ ((i : Nat) : Int) ∧ ((i : Nat) : Int) < ((List.length x1 : Nat) : Int), True] gamOK hT mixed h (by kernel_rfl) ⟨(by refine ⟨?_, ?_⟩ <;> (first | omega | (simp only [lsA]; omega) | (simp <;> omega))), (by refine ⟨?_, ?_⟩ <;> (first | omega | (simp only [lsA]; omega) | (simp <;> omega))), trivial, trivial⟩ fun a w h => then_normal ?_
   refine at_test (!((Sh.eqB s61) (x0.getD i (0, ([], []))) (x1.getD i (0, ([], []))))) h (by kernel_rfl) (fun h3 => ?_) (fun h3 => ?_)
   ·replace h3 : ((Sh.eqB s61) (x0.getD i (0, ([], []))) (x1.getD i (0, ([], [])))) = false := notT h3
    refine wp_seq ?_
    refine at_regq [] { ts := [0, 1, 4, 5], os := [] } [] gamOK hT h (by kernel_rfl) trivial fun a w h => then_normal (wp_ret (in_ret (then_ret (then_ret (in_ret (then_ret ?_))))))
    exact at_return (S := S_laws_eqCodedPacketS) (x := (x0, x1, ())) (false, ()) [] h (by kernel_rfl) trivial (congrArg (fun z => (z, ())) (show (false) = (Sh.eqB s126) x0 x1 from by exact (Sh.eqB_ne (s := s126) (fun e => Sh.of_eqB_ne h3 (by rw [e]))).symm))
   ·replace h3 : ((Sh.eqB s61) (x0.getD i (0, ([], []))) (x1.getD i (0, ([], [])))) = true := notF h3
    refine wp_skip (in_normal (then_normal ?_))
    refine at_regq [{}, { nw := true }] { ts := [0, 1, 4, 5], os := [] } [I64 (((i : Nat) : Int) + 1)] gamOK hT h (by kernel_rfl) ⟨⟨by first | omega | (simp only [lsA]; omega) | (simp <;> omega), by first | omega | (simp only [lsA]; omega) | (simp <;> omega)⟩, trivial⟩ fun a w h => ?_
    replace h := at_out (σ' := ⟨[(0, aF s61 x0), (1, aF s61 x1), (4, aB false), (5, aI (((i : Nat) : Int) + 1))], []⟩) { ts := [0, 1, 4, 5], os := [] } h (by kernel_rfl)
    exact ⟨i + 1, at_eq h (st_congr1 (fun (d0 : Int) => (⟨[(0, aF s61 x0), (1, aF s61 x1), (4, aB false), (5, aI d0)], []⟩ : St)) (show (((i : Nat) : Int) + 1 : Int) = (((i + 1) : Nat) : Int) from by first | with_reducible rfl | (omega) | rfl)), (by exact ⟨by omega, eqTo_step (z := (0, ([], []))) (by omega) (by omega) hok0.2 (Sh.of_eqB h3)⟩), (by omega)⟩
  ·replace h2 : ¬ (((i : Nat) : Int) < ((List.length x0 : Nat) : Int)) := of_decide_eq_false h2
   refine wp_exit (then_exit (then_exit (in_hit (then_normal (wp_seq ?_)))))
   refine at_regq [] { ts := [4], os := [] } [] gamOK hT h (by kernel_rfl) trivial fun a w h => then_normal (wp_ret ?_)
   exact at_return (S := S_laws_eqCodedPacketS) (x := (x0, x1, ())) (true, ()) [] h (by kernel_rfl) trivial (congrArg (fun z => (z, ())) (show (true) = (Sh.eqB s126) x0 x1 from by (have e := hok0.2; rw [take_all (by omega), take_all (by omega)] at e; exact ((Sh.eqB_iff s126).2 e).symm)))

def S_laws_eqFeedback : Sum := { fid := 277, dom := [s247, s247], cod := [(.bool 4)], dp := true, fz := false, pre := fun x => True, g := fun x => (((Sh.eqB s247) x.1 x.2.1), ()) }
def S_laws_eqFeedback_tab : List (Nat × Sum) := []
theorem S_laws_eqFeedback_ok : FnOK Try.prog 277 S_laws_eqFeedback := by
 refine at_enter 20 (fun x => ⟨[(0, aG [cI x.1.1, cI x.1.2.1, cI x.1.2.2]), (1, aG [cI x.2.1.1, cI x.2.1.2.1, cI x.2.1.2.2])], []⟩) Try.func277 rfl (by kernel_rfl) (fun x => rfl) ?_
 rintro w0 Z0 ⟨x0, x1, u⟩ a w
 revert x0 x1
 intro (x0 : T247) (x1 : T247) hpre hlens h
 replace h : At w0 Z0 [] 20 ⟨[(0, aG [cI x0.1, cI x0.2.1, cI x0.2.2]), (1, aG [cI x1.1, cI x1.2.1, cI x1.2.2])], []⟩ a w := h
 have hT : TabOK Try.prog S_laws_eqFeedback_tab := .nil
 refine wp_seq ?_
 refine at_regq [{ ids := [1] }, { ids := [2] }] { ts := [2, 3, 4], os := [1, 2] } [] gamOK hT h (by kernel_rfl) trivial fun a w h => then_normal (wp_seq (wp_seq ?_))
 refine at_regq [] { ts := [2, 3, 4, 9], os := [1, 2] } [] gamOK hT h (by kernel_rfl) trivial fun a w h => then_normal ?_
 refine at_test (!decide (x0.1 = x1.1)) h (by kernel_rfl) (fun h1 => ?_) (fun h1 => ?_)
 ·replace h1 : ¬ (x0.1 = x1.1) := of_decide_eq_false (notT h1)
  refine wp_seq ?_
  refine at_regq [] { ts := [2, 3, 4], os := [1, 2] } [] gamOK hT h (by kernel_rfl) trivial fun a w h => then_normal (wp_ret (then_ret ?_))
  exact at_return (S := S_laws_eqFeedback) (x := (x0, x1, ())) (false, ()) [] h (by kernel_rfl) trivial (congrArg (fun z => (z, ())) (show (false) = (Sh.eqB s247) x0 x1 from by exact (Sh.eqB_ne (s := s247) (fun e => h1 (congrArg (fun (y : T247) => y.1) e))).symm))
 ·replace h1 : x0.1 = x1.1 := of_decide_eq_true (notF h1)
  refine wp_skip (then_normal (wp_seq (wp_seq ?_)))
  refine at_regq [] { ts := [2, 3, 4, 14], os := [1, 2] } [] gamOK hT h (by kernel_rfl) trivial fun a w h => then_normal ?_
  refine at_test (!decide (x0.2.1 = x1.2.1)) h (by kernel_rfl) (fun h2 => ?_) (fun h2 => ?_)
  ·replace h2 : ¬ (x0.2.1 = x1.2.1) := of_decide_eq_false (notT h2)
   refine wp_seq ?_
   refine at_regq [] { ts := [2, 3, 4], os := [1, 2] } [] gamOK hT h (by kernel_rfl) trivial fun a w h => then_normal (wp_ret (then_ret ?_))
   exact at_return (S := S_laws_eqFeedback) (x := (x0, x1, ())) (false, ()) [] h (by kernel_rfl) trivial (congrArg (fun z => (z, ())) (show (false) = (Sh.eqB s247) x0 x1 from by exact (Sh.eqB_ne (s := s247) (fun e => h2 (congrArg (fun (y : T247) => y.2.1) e))).symm))
  ·replace h2 : x0.2.1 = x1.2.1 := of_decide_eq_true (notF h2)
   refine wp_skip (then_normal (wp_seq (wp_seq ?_)))
   refine at_regq [] { ts := [4, 19], os := [] } [] gamOK hT h (by kernel_rfl) trivial fun a w h => then_normal ?_
   refine at_test (!decide (x0.2.2 = x1.2.2)) h (by kernel_rfl) (fun h3 => ?_) (fun h3 => ?_)
   ·replace h3 : ¬ (x0.2.2 = x1.2.2) := of_decide_eq_false (notT h3)
    refine wp_seq ?_
    refine at_regq [] { ts := [4], os := [] } [] gamOK hT h (by kernel_rfl) trivial fun a w h => then_normal (wp_ret (then_ret ?_))
    exact at_return (S := S_laws_eqFeedback) (x := (x0, x1, ())) (false, ()) [] h (by kernel_rfl) trivial (congrArg (fun z => (z, ())) (show (false) = (Sh.eqB s247) x0 x1 from by exact (Sh.eqB_ne (s := s247) (fun e => h3 (congrArg (fun (y : T247) => y.2.2) e))).symm))
   ·replace h3 : x0.2.2 = x1.2.2 := of_decide_eq_true (notF h3)
    refine wp_skip (then_normal (wp_seq ?_))
    refine at_regq [] { ts := [4], os := [] } [] gamOK hT h (by kernel_rfl) trivial fun a w h => then_normal (wp_ret ?_)
    exact at_return (S := S_laws_eqFeedback) (x := (x0, x1, ())) (true, ()) [] h (by kernel_rfl) trivial (congrArg (fun z => (z, ())) (show (true) = (Sh.eqB s247) x0 x1 from by exact ((Sh.eqB_iff s247).2 (Prod.ext h1 (Prod.ext h2 h3))).symm))

def S_laws_eqFeedbackS : Sum := { fid := 207, dom := [s87, s87], cod := [(.bool 4)], dp := true, fz := false, pre := fun x => True, g := fun x => (((Sh.eqB s87) x.1 x.2.1), ()) }
def S_laws_eqFeedbackS_tab : List (Nat × Sum) := [(277, S_laws_eqFeedback)]
theorem S_laws_eqFeedbackS_ok : FnOK Try.prog 207 S_laws_eqFeedbackS := by
 refine at_enter 27 (fun x => ⟨[(0, aF s247 x.1), (1, aF s247 x.2.1)], []⟩) Try.func207 rfl (by kernel_rfl) (fun x => rfl) ?_
 rintro w0 Z0 ⟨x0, x1, u⟩ a w
 revert x0 x1
 intro (x0 : (List T247)) (x1 : (List T247)) hpre hlens h
 replace h : At w0 Z0 [] 27 ⟨[(0, aF s247 x0), (1, aF s247 x1)], []⟩ a w := h
 have hl1 : List.length x0 ≤ 9223372036854775807 := hlens.1.1
 have hl2 : List.length x1 ≤ 9223372036854775807 := hlens.2.1.1
 have hT : TabOK Try.prog S_laws_eqFeedbackS_tab := (.cons S_laws_eqFeedback_ok .nil)
 refine wp_seq ?_
 refine at_regq [] { ts := [0, 1, 4], os := [] } [] gamOK hT h (by kernel_rfl) trivial fun a w h => then_normal (wp_seq (wp_seq ?_))
 refine at_regq [] { ts := [0, 1, 4, 10], os := [] } [] gamOK hT h (by kernel_rfl) trivial fun a w h => then_normal ?_
 refine at_test (!decide (((List.length x0 : Nat) : Int) = ((List.length x1 : Nat) : Int))) h (by kernel_rfl) (fun h1 => ?_) (fun h1 => ?_)
 ·replace h1 : ¬ (((List.length x0 : Nat) : Int) = ((List.length x1 : Nat) : Int)) := of_decide_eq_false (notT h1)
  refine wp_seq ?_
  refine at_regq [] { ts := [0, 1, 4], os := [] } [] gamOK hT h (by kernel_rfl) trivial fun a w h => then_normal (wp_ret (then_ret ?_))
  exact at_return (S := S_laws_eqFeedbackS) (x := (x0, x1, ())) (false, ()) [] h (by kernel_rfl) trivial (congrArg (fun z => (z, ())) (show (false) = (Sh.eqB s87) x0 x1 from by exact (Sh.eqB_ne (fun e => h1 (by rw [e]))).symm))
 ·replace h1 : ((List.length x0 : Nat) : Int) = ((List.length x1 : Nat) : Int) := of_decide_eq_true (notF h1)
  refine wp_skip (then_normal (wp_seq (wp_seq ?_)))
  refine at_regq [] { ts := [0, 1, 4, 5], os := [] } [] gamOK hT h (by kernel_rfl) trivial fun a w h => then_normal (wp_block ?_)
  replace h := at_out (σ' := ⟨[(0, aF s247 x0), (1, aF s247 x1), (4, aB false), (5, aI 0)], []⟩) { ts := [0, 1, 4, 5], os := [] } h (by kernel_rfl)
  refine at_loop (fun i : Nat => (⟨[(0, aF s247 x0), (1, aF s247 x1), (4, aB false), (5, aI ((i : Nat) : Int))], []⟩ : St)) (fun i => (i ≤ List.length x0 ∧ x0.take i = x1.take i)) (fun i => List.length x0 - i) (0) h (st_congr1 (fun (d0 : Int) => (⟨[(0, aF s247 x0), (1, aF s247 x1), (4, aB false), (5, aI d0)], []⟩ : St)) (show (0 : Int) = (((0) : Nat) : Int) from by first | with_reducible rfl | (rfl) | rfl)) (by exact ⟨Nat.zero_le _, rfl⟩) ?_
  intro i a w hok0 h
  refine wp_seq (wp_seq ?_)
  refine at_regq [] { ts := [0, 1, 4, 5, 14], os := [] } [] gamOK hT h (by kernel_rfl) trivial fun a w h => then_normal ?_
  refine at_test (decide (((i : Nat) : Int) < ((List.length x0 : Nat) : Int))) h (by kernel_rfl) (fun h2 => ?_) (fun h2 => ?_)
  ·replace h2 : ((i : Nat) : Int) < ((List.length x0 : Nat) : Int) := of_decide_eq_true h2
   refine wp_skip (then_normal (wp_seq (wp_block (wp_seq ?_))))
   refine at_anyq [{}, {}, {}, {}, {}, {}, {}, {}, {}, {}] { ts := [0, 1, 4, 5, 26], os := [] } [(0 : Int) ≤ ((i : Nat) : Int) ∧ ((i : Nat) : Int) < ((List.length x0 : Nat) : Int), (0 : Int) ≤ ((i : Nat) : Int) ∧ ((i : Nat) : Int) < ((List.length x1 : Nat) : Int), True] gamOK hT mixed h (by kernel_rfl) ⟨(by refine ⟨?_, ?_⟩ <;> (first | omega | (simp only [lsA]; omega) | (simp <;> omega))), (by refine ⟨?_, ?_⟩ <;> (first | omega | (simp only [lsA]; omega) | (simp <;> omega))), trivial, trivial⟩ fun a w h => then_normal ?_
   refine at_test (!((Sh.eqB s247) (x0.getD i (0, (0, 0))) (x1.getD i (0, (0, 0))))) h (by kernel_rfl) (fun h3 => ?_) (fun h3 => ?_)
   ·replace h3 : ((Sh.eqB s247) (x0.getD i (0, (0, 0))) (x1.getD i (0, (0, 0)))) = false := notT h3
    refine wp_seq ?_
    refine at_regq [] { ts := [0, 1, 4, 5], os := [] } [] gamOK hT h (by kernel_rfl) trivial fun a w h => then_normal (wp_ret (in_ret (then_ret (then_ret (in_ret (then_ret ?_))))))
    exact at_return (S := S_laws_eqFeedbackS) (x := (x0, x1, ())) (false, ()) [] h (by kernel_rfl) trivial (congrArg (fun z => (z, ())) (show (false) = (Sh.eqB s87) x0 x1 from by exact (Sh.eqB_ne (s := s87) (fun e => Sh.of_eqB_ne h3 (by rw [e]))).symm))
   ·replace h3 : ((Sh.eqB s247) (x0.getD i (0, (0, 0))) (x1.getD i (0, (0, 0)))) = true := notF h3
    refine wp_skip (in_normal (then_normal ?_))
    refine at_regq [{}, { nw := true }] { ts := [0, 1, 4, 5], os := [] } [I64 (((i : Nat) : Int) + 1)] gamOK hT h (by kernel_rfl) ⟨⟨by first | omega | (simp only [lsA]; omega) | (simp <;> omega), by first | omega | (simp only [lsA]; omega) | (simp <;> omega)⟩, trivial⟩ fun a w h => ?_
    replace h := at_out (σ' := ⟨[(0, aF s247 x0), (1, aF s247 x1), (4, aB false), (5, aI (((i : Nat) : Int) + 1))], []⟩) { ts := [0, 1, 4, 5], os := [] } h (by kernel_rfl)
    exact ⟨i + 1, at_eq h (st_congr1 (fun (d0 : Int) => (⟨[(0, aF s247 x0), (1, aF s247 x1), (4, aB false), (5, aI d0)], []⟩ : St)) (show (((i : Nat) : Int) + 1 : Int) = (((i + 1) : Nat) : Int) from by first | with_reducible rfl | (omega) | rfl)), (by exact ⟨by omega, eqTo_step (z := (0, (0, 0))) (by omega) (by omega) hok0.2 (Sh.of_eqB h3)⟩), (by omega)⟩
  ·replace h2 : ¬ (((i : Nat) : Int) < ((List.length x0 : Nat) : Int)) := of_decide_eq_false h2
   refine wp_exit (then_exit (then_exit (in_hit (then_normal (wp_seq ?_)))))
   refine at_regq [] { ts := [4], os := [] } [] gamOK hT h (by kernel_rfl) trivial fun a w h => then_normal (wp_ret ?_)
   exact at_return (S := S_laws_eqFeedbackS) (x := (x0, x1, ())) (true, ()) [] h (by kernel_rfl) trivial (congrArg (fun z => (z, ())) (show (true) = (Sh.eqB s87) x0 x1 from by (have e := hok0.2; rw [take_all (by omega), take_all (by omega)] at e; exact ((Sh.eqB_iff s87).2 e).symm)))

def S_laws_eqFeedbackTable : Sum := { fid := 120, dom := [s89, s89], cod := [(.bool 4)], dp := true, fz := false, pre := fun x => True, g := fun x => (((Sh.eqB s89) x.1 x.2.1), ()) }
def S_laws_eqFeedbackTable_tab : List (Nat × Sum) := [(207, S_laws_eqFeedbackS)]
theorem S_laws_eqFeedbackTable_ok : FnOK Try.prog 120 S_laws_eqFeedbackTable := by
 refine at_enter 11 (fun x => ⟨[(0, aG [.ro s247 x.1]), (1, aG [.ro s247 x.2.1])], []⟩) Try.func120 rfl (by kernel_rfl) (fun x => rfl) ?_
 rintro w0 Z0 ⟨x0, x1, u⟩ a w
 revert x0 x1
 intro (x0 : (List T247)) (x1 : (List T247)) hpre hlens h
 replace h : At w0 Z0 [] 11 ⟨[(0, aG [.ro s247 x0]), (1, aG [.ro s247 x1])], []⟩ a w := h
 have hl1 : List.length x0 ≤ 9223372036854775807 := hlens.1.1
 have hl2 : List.length x1 ≤ 9223372036854775807 := hlens.2.1.1
 have hT : TabOK Try.prog S_laws_eqFeedbackTable_tab := (.cons S_laws_eqFeedbackS_ok .nil)
 refine wp_seq ?_
 refine at_regq [{ ids := [1] }, { ids := [2] }] { ts := [2, 3, 4], os := [1, 2] } [] gamOK hT h (by kernel_rfl) trivial fun a w h => then_normal (wp_seq (wp_seq ?_))
 refine at_regq [] { ts := [4, 10], os := [] } [True] gamOK hT h (by kernel_rfl) ⟨trivial, trivial⟩ fun a w h => then_normal ?_
 refine at_test (!((Sh.eqB s87) x0 x1)) h (by kernel_rfl) (fun h1 => ?_) (fun h1 => ?_)
 ·replace h1 : ((Sh.eqB s87) x0 x1) = false := notT h1
  refine wp_seq ?_
  refine at_regq [] { ts := [4], os := [] } [] gamOK hT h (by kernel_rfl) trivial fun a w h => then_normal (wp_ret (then_ret ?_))
  exact at_return (S := S_laws_eqFeedbackTable) (x := (x0, x1, ())) (false, ()) [] h (by kernel_rfl) trivial (congrArg (fun z => (z, ())) (show (false) = (Sh.eqB s89) x0 x1 from by exact (Sh.eqB_ne (s := s89) (fun e => Sh.of_eqB_ne h1 e)).symm))
 ·replace h1 : ((Sh.eqB s87) x0 x1) = true := notF h1
  refine wp_skip (then_normal (wp_seq ?_))
  refine at_regq [] { ts := [4], os := [] } [] gamOK hT h (by kernel_rfl) trivial fun a w h => then_normal (wp_ret ?_)
  exact at_return (S := S_laws_eqFeedbackTable) (x := (x0, x1, ())) (true, ()) [] h (by kernel_rfl) trivial (congrArg (fun z => (z, ())) (show (true) = (Sh.eqB s89) x0 x1 from by exact ((Sh.eqB_iff s89).2 (Sh.of_eqB h1)).symm))

def S_laws_eqGeneration : Sum := { fid := 187, dom := [s218, s218], cod := [(.bool 4)], dp := true, fz := false, pre := fun x => True, g := fun x => (((Sh.eqB s218) x.1 x.2.1), ()) }
def S_laws_eqGeneration_tab : List (Nat × Sum) := [(137, S_laws_eqIntSS)]
theorem S_laws_eqGeneration_ok : FnOK Try.prog 187 S_laws_eqGeneration := by
 refine at_enter 16 (fun x => ⟨[(0, aG [cI x.1.1, .ro s22 x.1.2]), (1, aG [cI x.2.1.1, .ro s22 x.2.1.2])], []⟩) Try.func187 rfl (by kernel_rfl) (fun x => rfl) ?_
 rintro w0 Z0 ⟨x0, x1, u⟩ a w
 revert x0 x1
 intro (x0 : T218) (x1 : T218) hpre hlens h
 replace h : At w0 Z0 [] 16 ⟨[(0, aG [cI x0.1, .ro s22 x0.2]), (1, aG [cI x1.1, .ro s22 x1.2])], []⟩ a w := h
 have hl1 : List.length x0.2 ≤ 9223372036854775807 := hlens.1.2.1
 have hl2 : List.length x1.2 ≤ 9223372036854775807 := hlens.2.1.2.1
 have hT : TabOK Try.prog S_laws_eqGeneration_tab := (.cons S_laws_eqIntSS_ok .nil)
 refine wp_seq ?_
 refine at_regq [{ ids := [1] }, { ids := [2] }] { ts := [2, 3, 4], os := [1, 2] } [] gamOK hT h (by kernel_rfl) trivial fun a w h => then_normal (wp_seq (wp_seq ?_))
 refine at_regq [] { ts := [2, 3, 4, 9], os := [1, 2] } [] gamOK hT h (by kernel_rfl) trivial fun a w h => then_normal ?_
 refine at_test (!decide (x0.1 = x1.1)) h (by kernel_rfl) (fun h1 => ?_) (fun h1 => ?_)
 ·replace h1 : ¬ (x0.1 = x1.1) := of_decide_eq_false (notT h1)
  refine wp_seq ?_
  refine at_regq [] { ts := [2, 3, 4], os := [1, 2] } [] gamOK hT h (by kernel_rfl) trivial fun a w h => then_normal (wp_ret (then_ret ?_))
  exact at_return (S := S_laws_eqGeneration) (x := (x0, x1, ())) (false, ()) [] h (by kernel_rfl) trivial (congrArg (fun z => (z, ())) (show (false) = (Sh.eqB s218) x0 x1 from by exact (Sh.eqB_ne (s := s218) (fun e => h1 (congrArg (fun (y : T218) => y.1) e))).symm))
 ·replace h1 : x0.1 = x1.1 := of_decide_eq_true (notF h1)
  refine wp_skip (then_normal (wp_seq (wp_seq ?_)))
  refine at_regq [] { ts := [4, 15], os := [] } [True] gamOK hT h (by kernel_rfl) ⟨trivial, trivial⟩ fun a w h => then_normal ?_
  refine at_test (!((Sh.eqB s97) x0.2 x1.2)) h (by kernel_rfl) (fun h2 => ?_) (fun h2 => ?_)
  ·replace h2 : ((Sh.eqB s97) x0.2 x1.2) = false := notT h2
   refine wp_seq ?_
   refine at_regq [] { ts := [4], os := [] } [] gamOK hT h (by kernel_rfl) trivial fun a w h => then_normal (wp_ret (then_ret ?_))
   exact at_return (S := S_laws_eqGeneration) (x := (x0, x1, ())) (false, ()) [] h (by kernel_rfl) trivial (congrArg (fun z => (z, ())) (show (false) = (Sh.eqB s218) x0 x1 from by exact (Sh.eqB_ne (s := s218) (fun e => Sh.of_eqB_ne h2 (congrArg (fun (y : T218) => y.2) e))).symm))
  ·replace h2 : ((Sh.eqB s97) x0.2 x1.2) = true := notF h2
   refine wp_skip (then_normal (wp_seq ?_))
   refine at_regq [] { ts := [4], os := [] } [] gamOK hT h (by kernel_rfl) trivial fun a w h => then_normal (wp_ret ?_)
   exact at_return (S := S_laws_eqGeneration) (x := (x0, x1, ())) (true, ()) [] h (by kernel_rfl) trivial (congrArg (fun z => (z, ())) (show (true) = (Sh.eqB s218) x0 x1 from by exact ((Sh.eqB_iff s218).2 (Prod.ext h1 (Sh.of_eqB h2))).symm))

def S_laws_eqGenerationS : Sum := { fid := 90, dom := [s30, s30], cod := [(.bool 4)], dp := true, fz := false, pre := fun x => True, g := fun x => (((Sh.eqB s30) x.1 x.2.1), ()) }
def S_laws_eqGenerationS_tab : List (Nat × Sum) := [(187, S_laws_eqGeneration)]
theorem S_laws_eqGenerationS_ok : FnOK Try.prog 90 S_laws_eqGenerationS := by
 refine at_enter 27 (fun x => ⟨[(0, aF s218 x.1), (1, aF s218 x.2.1)], []⟩) Try.func90 rfl (by kernel_rfl) (fun x => rfl) ?_
 rintro w0 Z0 ⟨x0, x1, u⟩ a w
 revert x0 x1
 intro (x0 : (List T218)) (x1 : (List T218)) hpre hlens h
 replace h : At w0 Z0 [] 27 ⟨[(0, aF s218 x0), (1, aF s218 x1)], []⟩ a w := h
 have hl1 : List.length x0 ≤ 9223372036854775807 := hlens.1.1
 have hl2 : List.length x1 ≤ 9223372036854775807 := hlens.2.1.1
 have hT : TabOK Try.prog S_laws_eqGenerationS_tab := (.cons S_laws_eqGeneration_ok .nil)
 refine wp_seq ?_
 refine at_regq [] { ts := [0, 1, 4], os := [] } [] gamOK hT h (by kernel_rfl) trivial fun a w h => then_normal (wp_seq (wp_seq ?_))
 refine at_regq [] { ts := [0, 1, 4, 10], os := [] } [] gamOK hT h (by kernel_rfl) trivial fun a w h => then_normal ?_
 refine at_test (!decide (((List.length x0 : Nat) : Int) = ((List.length x1 : Nat) : Int))) h (by kernel_rfl) (fun h1 => ?_) (fun h1 => ?_)
 ·replace h1 : ¬ (((List.length x0 : Nat) : Int) = ((List.length x1 : Nat) : Int)) := of_decide_eq_false (notT h1)
  refine wp_seq ?_
  refine at_regq [] { ts := [0, 1, 4], os := [] } [] gamOK hT h (by kernel_rfl) trivial fun a w h => then_normal (wp_ret (then_ret ?_))
  exact at_return (S := S_laws_eqGenerationS) (x := (x0, x1, ())) (false, ()) [] h (by kernel_rfl) trivial (congrArg (fun z => (z, ())) (show (false) = (Sh.eqB s30) x0 x1 from by exact (Sh.eqB_ne (fun e => h1 (by rw [e]))).symm))
 ·replace h1 : ((List.length x0 : Nat) : Int) = ((List.length x1 : Nat) : Int) := of_decide_eq_true (notF h1)
  refine wp_skip (then_normal (wp_seq (wp_seq ?_)))
  refine at_regq [] { ts := [0, 1, 4, 5], os := [] } [] gamOK hT h (by kernel_rfl) trivial fun a w h => then_normal (wp_block ?_)
  replace h := at_out (σ' := ⟨[(0, aF s218 x0), (1, aF s218 x1), (4, aB false), (5, aI 0)], []⟩) { ts := [0, 1, 4, 5], os := [] } h (by kernel_rfl)
  refine at_loop (fun i : Nat => (⟨[(0, aF s218 x0), (1, aF s218 x1), (4, aB false), (5, aI ((i : Nat) : Int))], []⟩ : St)) (fun i => (i ≤ List.length x0 ∧ x0.take i = x1.take i)) (fun i => List.length x0 - i) (0) h (st_congr1 (fun (d0 : Int) => (⟨[(0, aF s218 x0), (1, aF s218 x1), (4, aB false), (5, aI d0)], []⟩ : St)) (show (0 : Int) = (((0) : Nat) : Int) from by first | with_reducible rfl | (rfl) | rfl)) (by exact ⟨Nat.zero_le _, rfl⟩) ?_
  intro i a w hok0 h
  refine wp_seq (wp_seq ?_)
  refine at_regq [] { ts := [0, 1, 4, 5, 14], os := [] } [] gamOK hT h (by kernel_rfl) trivial fun a w h => then_normal ?_
  refine at_test (decide (((i : Nat) : Int) < ((List.length x0 : Nat) : Int))) h (by kernel_rfl) (fun h2 => ?_) (fun h2 => ?_)
  ·replace h2 : ((i : Nat) : Int) < ((List.length x0 : Nat) : Int) := of_decide_eq_true h2
   refine wp_skip (then_normal (wp_seq (wp_block (wp_seq ?_))))
   refine at_anyq [{}, {}, {}, {}, {}, {}, {}, {}, {}, {}] { ts := [0, 1, 4, 5, 26], os := [] } [(0 : Int) ≤ ((i : Nat) : Int) ∧ ((i : Nat) : Int) < ((List.length x0 : Nat) : Int), (0 : Int) ≤ ((i : Nat) : Int) ∧ ((i : Nat) : Int) < ((List.length x1 : Nat) : Int), True] gamOK hT mixed h (by kernel_rfl) ⟨(by refine ⟨?_, ?_⟩ <;> (first | omega | (simp only [lsA]; omega) | (simp <;> omega))), (by refine ⟨?_, ?_⟩ <;> (first | omega | (simp only [lsA]; omega) | (simp <;> omega))), trivial, trivial⟩ fun a w h => then_normal ?_
   refine at_test (!((Sh.eqB s218) (x0.getD i (0, [])) (x1.getD i (0, [])))) h (by kernel_rfl) (fun h3 => ?_) (fun h3 => ?_)
   ·replace h3 : ((Sh.eqB s218) (x0.getD i (0, [])) (x1.getD i (0, []))) = false := notT h3
    refine wp_seq ?_
    refine at_regq [] { ts := [0, 1, 4, 5], os := [] } [] gamOK hT h (by kernel_rfl) trivial fun a w h => then_normal (wp_ret (in_ret (then_ret (then_ret (in_ret (then_ret ?_))))))
    exact at_return (S := S_laws_eqGenerationS) (x := (x0, x1, ())) (false, ()) [] h (by kernel_rfl) trivial (congrArg (fun z => (z, ())) (show (false) = (Sh.eqB s30) x0 x1 from by exact (Sh.eqB_ne (s := s30) (fun e => Sh.of_eqB_ne h3 (by rw [e]))).symm))
   ·replace h3 : ((Sh.eqB s218) (x0.getD i (0, [])) (x1.getD i (0, []))) = true := notF h3
    refine wp_skip (in_normal (then_normal ?_))
    refine at_regq [{}, { nw := true }] { ts := [0, 1, 4, 5], os := [] } [I64 (((i : Nat) : Int) + 1)] gamOK hT h (by kernel_rfl) ⟨⟨by first | omega | (simp only [lsA]; omega) | (simp <;> omega), by first | omega | (simp only [lsA]; omega) | (simp <;> omega)⟩, trivial⟩ fun a w h => ?_
    replace h := at_out (σ' := ⟨[(0, aF s218 x0), (1, aF s218 x1), (4, aB false), (5, aI (((i : Nat) : Int) + 1))], []⟩) { ts := [0, 1, 4, 5], os := [] } h (by kernel_rfl)
    exact ⟨i + 1, at_eq h (st_congr1 (fun (d0 : Int) => (⟨[(0, aF s218 x0), (1, aF s218 x1), (4, aB false), (5, aI d0)], []⟩ : St)) (show (((i : Nat) : Int) + 1 : Int) = (((i + 1) : Nat) : Int) from by first | with_reducible rfl | (omega) | rfl)), (by exact ⟨by omega, eqTo_step (z := (0, [])) (by omega) (by omega) hok0.2 (Sh.of_eqB h3)⟩), (by omega)⟩
  ·replace h2 : ¬ (((i : Nat) : Int) < ((List.length x0 : Nat) : Int)) := of_decide_eq_false h2
   refine wp_exit (then_exit (then_exit (in_hit (then_normal (wp_seq ?_)))))
   refine at_regq [] { ts := [4], os := [] } [] gamOK hT h (by kernel_rfl) trivial fun a w h => then_normal (wp_ret ?_)
   exact at_return (S := S_laws_eqGenerationS) (x := (x0, x1, ())) (true, ()) [] h (by kernel_rfl) trivial (congrArg (fun z => (z, ())) (show (true) = (Sh.eqB s30) x0 x1 from by (have e := hok0.2; rw [take_all (by omega), take_all (by omega)] at e; exact ((Sh.eqB_iff s30).2 e).symm)))

def S_laws_eqRecoder : Sum := { fid := 67, dom := [s128, s128], cod := [(.bool 4)], dp := true, fz := false, pre := fun x => True, g := fun x => (((Sh.eqB s128) x.1 x.2.1), ()) }
def S_laws_eqRecoder_tab : List (Nat × Sum) := [(159, S_laws_eqCodedPacketS)]
theorem S_laws_eqRecoder_ok : FnOK Try.prog 67 S_laws_eqRecoder := by
 refine at_enter 31 (fun x => ⟨[(0, aG [cI x.1.1, cI x.1.2.1, cI x.1.2.2.1, .ro s61 x.1.2.2.2.1, cI x.1.2.2.2.2]), (1, aG [cI x.2.1.1, cI x.2.1.2.1, cI x.2.1.2.2.1, .ro s61 x.2.1.2.2.2.1, cI x.2.1.2.2.2.2])], []⟩) Try.func67 rfl (by kernel_rfl) (fun x => rfl) ?_
 rintro w0 Z0 ⟨x0, x1, u⟩ a w
 revert x0 x1
 intro (x0 : T128) (x1 : T128) hpre hlens h
 replace h : At w0 Z0 [] 31 ⟨[(0, aG [cI x0.1, cI x0.2.1, cI x0.2.2.1, .ro s61 x0.2.2.2.1, cI x0.2.2.2.2]), (1, aG [cI x1.1, cI x1.2.1, cI x1.2.2.1, .ro s61 x1.2.2.2.1, cI x1.2.2.2.2])], []⟩ a w := h
 have hl1 : List.length x0.2.2.2.1 ≤ 9223372036854775807 := hlens.1.2.2.2.1.1
 have hl2 : List.length x1.2.2.2.1 ≤ 9223372036854775807 := hlens.2.1.2.2.2.1.1
 have hT : TabOK Try.prog S_laws_eqRecoder_tab := (.cons S_laws_eqCodedPacketS_ok .nil)
 refine wp_seq ?_
 refine at_regq [{ ids := [1] }, { ids := [2] }] { ts := [2, 3, 4], os := [1, 2] } [] gamOK hT h (by kernel_rfl) trivial fun a w h => then_normal (wp_seq (wp_seq ?_))
 refine at_regq [] { ts := [2, 3, 4, 9], os := [1, 2] } [] gamOK hT h (by kernel_rfl) trivial fun a w h => then_normal ?_
 refine at_test (!decide (x0.1 = x1.1)) h (by kernel_rfl) (fun h1 => ?_) (fun h1 => ?_)
 ·replace h1 : ¬ (x0.1 = x1.1) := of_decide_eq_false (notT h1)
  refine wp_seq ?_
  refine at_regq [] { ts := [2, 3, 4], os := [1, 2] } [] gamOK hT h (by kernel_rfl) trivial fun a w h => then_normal (wp_ret (then_ret ?_))
  exact at_return (S := S_laws_eqRecoder) (x := (x0, x1, ())) (false, ()) [] h (by kernel_rfl) trivial (congrArg (fun z => (z, ())) (show (false) = (Sh.eqB s128) x0 x1 from by exact (Sh.eqB_ne (s := s128) (fun e => h1 (congrArg (fun (y : T128) => y.1) e))).symm))
 ·replace h1 : x0.1 = x1.1 := of_decide_eq_true (notF h1)
  refine wp_skip (then_normal (wp_seq (wp_seq ?_)))
  refine at_regq [] { ts := [2, 3, 4, 14], os := [1, 2] } [] gamOK hT h (by kernel_rfl) trivial fun a w h => then_normal ?_
  refine at_test (!decide (x0.2.1 = x1.2.1)) h (by kernel_rfl) (fun h2 => ?_) (fun h2 => ?_)
  ·replace h2 : ¬ (x0.2.1 = x1.2.1) := of_decide_eq_false (notT h2)
   refine wp_seq ?_
   refine at_regq [] { ts := [2, 3, 4], os := [1, 2] } [] gamOK hT h (by kernel_rfl) trivial fun a w h => then_normal (wp_ret (then_ret ?_))
   exact at_return (S := S_laws_eqRecoder) (x := (x0, x1, ())) (false, ()) [] h (by kernel_rfl) trivial (congrArg (fun z => (z, ())) (show (false) = (Sh.eqB s128) x0 x1 from by exact (Sh.eqB_ne (s := s128) (fun e => h2 (congrArg (fun (y : T128) => y.2.1) e))).symm))
  ·replace h2 : x0.2.1 = x1.2.1 := of_decide_eq_true (notF h2)
   refine wp_skip (then_normal (wp_seq (wp_seq ?_)))
   refine at_regq [] { ts := [2, 3, 4, 19], os := [1, 2] } [] gamOK hT h (by kernel_rfl) trivial fun a w h => then_normal ?_
   refine at_test (!decide (x0.2.2.1 = x1.2.2.1)) h (by kernel_rfl) (fun h3 => ?_) (fun h3 => ?_)
   ·replace h3 : ¬ (x0.2.2.1 = x1.2.2.1) := of_decide_eq_false (notT h3)
    refine wp_seq ?_
    refine at_regq [] { ts := [2, 3, 4], os := [1, 2] } [] gamOK hT h (by kernel_rfl) trivial fun a w h => then_normal (wp_ret (then_ret ?_))
    exact at_return (S := S_laws_eqRecoder) (x := (x0, x1, ())) (false, ()) [] h (by kernel_rfl) trivial (congrArg (fun z => (z, ())) (show (false) = (Sh.eqB s128) x0 x1 from by exact (Sh.eqB_ne (s := s128) (fun e => h3 (congrArg (fun (y : T128) => y.2.2.1) e))).symm))
   ·replace h3 : x0.2.2.1 = x1.2.2.1 := of_decide_eq_true (notF h3)
    refine wp_skip (then_normal (wp_seq (wp_seq ?_)))
    refine at_regq [] { ts := [2, 3, 4, 25], os := [1, 2] } [True] gamOK hT h (by kernel_rfl) ⟨trivial, trivial⟩ fun a w h => then_normal ?_
    refine at_test (!((Sh.eqB s126) x0.2.2.2.1 x1.2.2.2.1)) h (by kernel_rfl) (fun h4 => ?_) (fun h4 => ?_)
    ·replace h4 : ((Sh.eqB s126) x0.2.2.2.1 x1.2.2.2.1) = false := notT h4
     refine wp_seq ?_
     refine at_regq [] { ts := [2, 3, 4], os := [1, 2] } [] gamOK hT h (by kernel_rfl) trivial fun a w h => then_normal (wp_ret (then_ret ?_))
     exact at_return (S := S_laws_eqRecoder) (x := (x0, x1, ())) (false, ()) [] h (by kernel_rfl) trivial (congrArg (fun z => (z, ())) (show (false) = (Sh.eqB s128) x0 x1 from by exact (Sh.eqB_ne (s := s128) (fun e => Sh.of_eqB_ne h4 (congrArg (fun (y : T128) => y.2.2.2.1) e))).symm))
    ·replace h4 : ((Sh.eqB s126) x0.2.2.2.1 x1.2.2.2.1) = true := notF h4
     refine wp_skip (then_normal (wp_seq (wp_seq ?_)))
     refine at_regq [] { ts := [4, 30], os := [] } [] gamOK hT h (by kernel_rfl) trivial fun a w h => then_normal ?_
     refine at_test (!decide (x0.2.2.2.2 = x1.2.2.2.2)) h (by kernel_rfl) (fun h5 => ?_) (fun h5 => ?_)
     ·replace h5 : ¬ (x0.2.2.2.2 = x1.2.2.2.2) := of_decide_eq_false (notT h5)
      refine wp_seq ?_
      refine at_regq [] { ts := [4], os := [] } [] gamOK hT h (by kernel_rfl) trivial fun a w h => then_normal (wp_ret (then_ret ?_))
      exact at_return (S := S_laws_eqRecoder) (x := (x0, x1, ())) (false, ()) [] h (by kernel_rfl) trivial (congrArg (fun z => (z, ())) (show (false) = (Sh.eqB s128) x0 x1 from by exact (Sh.eqB_ne (s := s128) (fun e => h5 (congrArg (fun (y : T128) => y.2.2.2.2) e))).symm))
     ·replace h5 : x0.2.2.2.2 = x1.2.2.2.2 := of_decide_eq_true (notF h5)
      refine wp_skip (then_normal (wp_seq ?_))
      refine at_regq [] { ts := [4], os := [] } [] gamOK hT h (by kernel_rfl) trivial fun a w h => then_normal (wp_ret ?_)
      exact at_return (S := S_laws_eqRecoder) (x := (x0, x1, ())) (true, ()) [] h (by kernel_rfl) trivial (congrArg (fun z => (z, ())) (show (true) = (Sh.eqB s128) x0 x1 from by exact ((Sh.eqB_iff s128).2 (Prod.ext h1 (Prod.ext h2 (Prod.ext h3 (Prod.ext (Sh.of_eqB h4) h5))))).symm))

def S_laws_eqRecoderS : Sum := { fid := 119, dom := [s86, s86], cod := [(.bool 4)], dp := true, fz := false, pre := fun x => True, g := fun x => (((Sh.eqB s86) x.1 x.2.1), ()) }
def S_laws_eqRecoderS_tab : List (Nat × Sum) := [(67, S_laws_eqRecoder)]
theorem S_laws_eqRecoderS_ok : FnOK Try.prog 119 S_laws_eqRecoderS := by
 refine at_enter 27 (fun x => ⟨[(0, aF s128 x.1), (1, aF s128 x.2.1)], []⟩) Try.func119 rfl (by kernel_rfl) (fun x => rfl) ?_
 rintro w0 Z0 ⟨x0, x1, u⟩ a w
 revert x0 x1
 intro (x0 : (List T128)) (x1 : (List T128)) hpre hlens h
 replace h : At w0 Z0 [] 27 ⟨[(0, aF s128 x0), (1, aF s128 x1)], []⟩ a w := h
 have hl1 : List.length x0 ≤ 9223372036854775807 := hlens.1.1
 have hl2 : List.length x1 ≤ 9223372036854775807 := hlens.2.1.1
 have hT : TabOK Try.prog S_laws_eqRecoderS_tab := (.cons S_laws_eqRecoder_ok .nil)
 refine wp_seq ?_
 refine at_regq [] { ts := [0, 1, 4], os := [] } [] gamOK hT h (by kernel_rfl) trivial fun a w h => then_normal (wp_seq (wp_seq ?_))
 refine at_regq [] { ts := [0, 1, 4, 10], os := [] } [] gamOK hT h (by kernel_rfl) trivial fun a w h => then_normal ?_
 refine at_test (!decide (((List.length x0 : Nat) : Int) = ((List.length x1 : Nat) : Int))) h (by kernel_rfl) (fun h1 => ?_) (fun h1 => ?_)
 ·replace h1 : ¬ (((List.length x0 : Nat) : Int) = ((List.length x1 : Nat) : Int)) := of_decide_eq_false (notT h1)
  refine wp_seq ?_
  refine at_regq [] { ts := [0, 1, 4], os := [] } [] gamOK hT h (by kernel_rfl) trivial fun a w h => then_normal (wp_ret (then_ret ?_))
  exact at_return (S := S_laws_eqRecoderS) (x := (x0, x1, ())) (false, ()) [] h (by kernel_rfl) trivial (congrArg (fun z => (z, ())) (show (false) = (Sh.eqB s86) x0 x1 from by exact (Sh.eqB_ne (fun e => h1 (by rw [e]))).symm))
 ·replace h1 : ((List.length x0 : Nat) : Int) = ((List.length x1 : Nat) : Int) := of_decide_eq_true (notF h1)
  refine wp_skip (then_normal (wp_seq (wp_seq ?_)))
  refine at_regq [] { ts := [0, 1, 4, 5], os := [] } [] gamOK hT h (by kernel_rfl) trivial fun a w h => then_normal (wp_block ?_)
  replace h := at_out (σ' := ⟨[(0, aF s128 x0), (1, aF s128 x1), (4, aB false), (5, aI 0)], []⟩) { ts := [0, 1, 4, 5], os := [] } h (by kernel_rfl)
  refine at_loop (fun i : Nat => (⟨[(0, aF s128 x0), (1, aF s128 x1), (4, aB false), (5, aI ((i : Nat) : Int))], []⟩ : St)) (fun i => (i ≤ List.length x0 ∧ x0.take i = x1.take i)) (fun i => List.length x0 - i) (0) h (st_congr1 (fun (d0 : Int) => (⟨[(0, aF s128 x0), (1, aF s128 x1), (4, aB false), (5, aI d0)], []⟩ : St)) (show (0 : Int) = (((0) : Nat) : Int) from by first | with_reducible rfl | (rfl) | rfl)) (by exact ⟨Nat.zero_le _, rfl⟩) ?_
  intro i a w hok0 h
  refine wp_seq (wp_seq ?_)
  refine at_regq [] { ts := [0, 1, 4, 5, 14], os := [] } [] gamOK hT h (by kernel_rfl) trivial fun a w h => then_normal ?_
  refine at_test (decide (((i : Nat) : Int) < ((List.length x0 : Nat) : Int))) h (by kernel_rfl) (fun h2 => ?_) (fun h2 => ?_)
  ·replace h2 : ((i : Nat) : Int) < ((List.length x0 : Nat) : Int) := of_decide_eq_true h2
   refine wp_skip (then_normal (wp_seq (wp_block (wp_seq ?_))))
   refine at_anyq [{}, {}, {}, {}, {}, {}, {}, {}, {}, {}] { ts := [0, 1, 4, 5, 26], os := [] } [(0 : Int) ≤ ((i : Nat) : Int) ∧ ((i : Nat) : Int) < ((List.length x0 : Nat) : Int), (0 : Int) ≤ ((i : Nat) : Int) ∧ ((i : Nat) : Int) < ((List.length x1 : Nat) : Int), True] gamOK hT mixed h (by kernel_rfl) ⟨(by refine ⟨?_, ?_⟩ <;> (first | omega | (simp only [lsA]; omega) | (simp <;> omega))), (by refine ⟨?_, ?_⟩ <;> (first | omega | (simp only [lsA]; omega) | (simp <;> omega))), trivial, trivial⟩ fun a w h => then_normal ?_
   refine at_test (!((Sh.eqB s128) (x0.getD i (0, (0, (0, ([], 0))))) (x1.getD i (0, (0, (0, ([], 0))))))) h (by kernel_rfl) (fun h3 => ?_) (fun h3 => ?_)
   ·replace h3 : ((Sh.eqB s128) (x0.getD i (0, (0, (0, ([], 0))))) (x1.getD i (0, (0, (0, ([], 0)))))) = false := notT h3
    refine wp_seq ?_
    refine at_regq [] { ts := [0, 1, 4, 5], os := [] } [] gamOK hT h (by kernel_rfl) trivial fun a w h => then_normal (wp_ret (in_ret (then_ret (then_ret (in_ret (then_ret ?_))))))
    exact at_return (S := S_laws_eqRecoderS) (x := (x0, x1, ())) (false, ()) [] h (by kernel_rfl) trivial (congrArg (fun z => (z, ())) (show (false) = (Sh.eqB s86) x0 x1 from by exact (Sh.eqB_ne (s := s86) (fun e => Sh.of_eqB_ne h3 (by rw [e]))).symm))
   ·replace h3 : ((Sh.eqB s128) (x0.getD i (0, (0, (0, ([], 0))))) (x1.getD i (0, (0, (0, ([], 0)))))) = true := notF h3
    refine wp_skip (in_normal (then_normal ?_))
    refine at_regq [{}, { nw := true }] { ts := [0, 1, 4, 5], os := [] } [I64 (((i : Nat) : Int) + 1)] gamOK hT h (by kernel_rfl) ⟨⟨by first | omega | (simp only [lsA]; omega) | (simp <;> omega), by first | omega | (simp only [lsA]; omega) | (simp <;> omega)⟩, trivial⟩ fun a w h => ?_
    replace h := at_out (σ' := ⟨[(0, aF s128 x0), (1, aF s128 x1), (4, aB false), (5, aI (((i : Nat) : Int) + 1))], []⟩) { ts := [0, 1, 4, 5], os := [] } h (by kernel_rfl)
    exact ⟨i + 1, at_eq h (st_congr1 (fun (d0 : Int) => (⟨[(0, aF s128 x0), (1, aF s128 x1), (4, aB false), (5, aI d0)], []⟩ : St)) (show (((i : Nat) : Int) + 1 : Int) = (((i + 1) : Nat) : Int) from by first | with_reducible rfl | (omega) | rfl)), (by exact ⟨by omega, eqTo_step (z := (0, (0, (0, ([], 0))))) (by omega) (by omega) hok0.2 (Sh.of_eqB h3)⟩), (by omega)⟩
  ·replace h2 : ¬ (((i : Nat) : Int) < ((List.length x0 : Nat) : Int)) := of_decide_eq_false h2
   refine wp_exit (then_exit (then_exit (in_hit (then_normal (wp_seq ?_)))))
   refine at_regq [] { ts := [4], os := [] } [] gamOK hT h (by kernel_rfl) trivial fun a w h => then_normal (wp_ret ?_)
   exact at_return (S := S_laws_eqRecoderS) (x := (x0, x1, ())) (true, ()) [] h (by kernel_rfl) trivial (congrArg (fun z => (z, ())) (show (true) = (Sh.eqB s86) x0 x1 from by (have e := hok0.2; rw [take_all (by omega), take_all (by omega)] at e; exact ((Sh.eqB_iff s86).2 e).symm)))

def S_laws_eqSendWindow : Sum := { fid := 118, dom := [s85, s85], cod := [(.bool 4)], dp := true, fz := false, pre := fun x => True, g := fun x => (((Sh.eqB s85) x.1 x.2.1), ()) }
def S_laws_eqSendWindow_tab : List (Nat × Sum) := []
theorem S_laws_eqSendWindow_ok : FnOK Try.prog 118 S_laws_eqSendWindow := by
 refine at_enter 25 (fun x => ⟨[(0, aG [cI x.1.1, cI x.1.2.1, cI x.1.2.2.1, cI x.1.2.2.2]), (1, aG [cI x.2.1.1, cI x.2.1.2.1, cI x.2.1.2.2.1, cI x.2.1.2.2.2])], []⟩) Try.func118 rfl (by kernel_rfl) (fun x => rfl) ?_
 rintro w0 Z0 ⟨x0, x1, u⟩ a w
 revert x0 x1
 intro (x0 : T85) (x1 : T85) hpre hlens h
 replace h : At w0 Z0 [] 25 ⟨[(0, aG [cI x0.1, cI x0.2.1, cI x0.2.2.1, cI x0.2.2.2]), (1, aG [cI x1.1, cI x1.2.1, cI x1.2.2.1, cI x1.2.2.2])], []⟩ a w := h
 have hT : TabOK Try.prog S_laws_eqSendWindow_tab := .nil
 refine wp_seq ?_
 refine at_regq [{ ids := [1] }, { ids := [2] }] { ts := [2, 3, 4], os := [1, 2] } [] gamOK hT h (by kernel_rfl) trivial fun a w h => then_normal (wp_seq (wp_seq ?_))
 refine at_regq [] { ts := [2, 3, 4, 9], os := [1, 2] } [] gamOK hT h (by kernel_rfl) trivial fun a w h => then_normal ?_
 refine at_test (!decide (x0.1 = x1.1)) h (by kernel_rfl) (fun h1 => ?_) (fun h1 => ?_)
 ·replace h1 : ¬ (x0.1 = x1.1) := of_decide_eq_false (notT h1)
  refine wp_seq ?_
  refine at_regq [] { ts := [2, 3, 4], os := [1, 2] } [] gamOK hT h (by kernel_rfl) trivial fun a w h => then_normal (wp_ret (then_ret ?_))
  exact at_return (S := S_laws_eqSendWindow) (x := (x0, x1, ())) (false, ()) [] h (by kernel_rfl) trivial (congrArg (fun z => (z, ())) (show (false) = (Sh.eqB s85) x0 x1 from by exact (Sh.eqB_ne (s := s85) (fun e => h1 (congrArg (fun (y : T85) => y.1) e))).symm))
 ·replace h1 : x0.1 = x1.1 := of_decide_eq_true (notF h1)
  refine wp_skip (then_normal (wp_seq (wp_seq ?_)))
  refine at_regq [] { ts := [2, 3, 4, 14], os := [1, 2] } [] gamOK hT h (by kernel_rfl) trivial fun a w h => then_normal ?_
  refine at_test (!decide (x0.2.1 = x1.2.1)) h (by kernel_rfl) (fun h2 => ?_) (fun h2 => ?_)
  ·replace h2 : ¬ (x0.2.1 = x1.2.1) := of_decide_eq_false (notT h2)
   refine wp_seq ?_
   refine at_regq [] { ts := [2, 3, 4], os := [1, 2] } [] gamOK hT h (by kernel_rfl) trivial fun a w h => then_normal (wp_ret (then_ret ?_))
   exact at_return (S := S_laws_eqSendWindow) (x := (x0, x1, ())) (false, ()) [] h (by kernel_rfl) trivial (congrArg (fun z => (z, ())) (show (false) = (Sh.eqB s85) x0 x1 from by exact (Sh.eqB_ne (s := s85) (fun e => h2 (congrArg (fun (y : T85) => y.2.1) e))).symm))
  ·replace h2 : x0.2.1 = x1.2.1 := of_decide_eq_true (notF h2)
   refine wp_skip (then_normal (wp_seq (wp_seq ?_)))
   refine at_regq [] { ts := [2, 3, 4, 19], os := [1, 2] } [] gamOK hT h (by kernel_rfl) trivial fun a w h => then_normal ?_
   refine at_test (!decide (x0.2.2.1 = x1.2.2.1)) h (by kernel_rfl) (fun h3 => ?_) (fun h3 => ?_)
   ·replace h3 : ¬ (x0.2.2.1 = x1.2.2.1) := of_decide_eq_false (notT h3)
    refine wp_seq ?_
    refine at_regq [] { ts := [2, 3, 4], os := [1, 2] } [] gamOK hT h (by kernel_rfl) trivial fun a w h => then_normal (wp_ret (then_ret ?_))
    exact at_return (S := S_laws_eqSendWindow) (x := (x0, x1, ())) (false, ()) [] h (by kernel_rfl) trivial (congrArg (fun z => (z, ())) (show (false) = (Sh.eqB s85) x0 x1 from by exact (Sh.eqB_ne (s := s85) (fun e => h3 (congrArg (fun (y : T85) => y.2.2.1) e))).symm))
   ·replace h3 : x0.2.2.1 = x1.2.2.1 := of_decide_eq_true (notF h3)
    refine wp_skip (then_normal (wp_seq (wp_seq ?_)))
    refine at_regq [] { ts := [4, 24], os := [] } [] gamOK hT h (by kernel_rfl) trivial fun a w h => then_normal ?_
    refine at_test (!decide (x0.2.2.2 = x1.2.2.2)) h (by kernel_rfl) (fun h4 => ?_) (fun h4 => ?_)
    ·replace h4 : ¬ (x0.2.2.2 = x1.2.2.2) := of_decide_eq_false (notT h4)
     refine wp_seq ?_
     refine at_regq [] { ts := [4], os := [] } [] gamOK hT h (by kernel_rfl) trivial fun a w h => then_normal (wp_ret (then_ret ?_))
     exact at_return (S := S_laws_eqSendWindow) (x := (x0, x1, ())) (false, ()) [] h (by kernel_rfl) trivial (congrArg (fun z => (z, ())) (show (false) = (Sh.eqB s85) x0 x1 from by exact (Sh.eqB_ne (s := s85) (fun e => h4 (congrArg (fun (y : T85) => y.2.2.2) e))).symm))
    ·replace h4 : x0.2.2.2 = x1.2.2.2 := of_decide_eq_true (notF h4)
     refine wp_skip (then_normal (wp_seq ?_))
     refine at_regq [] { ts := [4], os := [] } [] gamOK hT h (by kernel_rfl) trivial fun a w h => then_normal (wp_ret ?_)
     exact at_return (S := S_laws_eqSendWindow) (x := (x0, x1, ())) (true, ()) [] h (by kernel_rfl) trivial (congrArg (fun z => (z, ())) (show (true) = (Sh.eqB s85) x0 x1 from by exact ((Sh.eqB_iff s85).2 (Prod.ext h1 (Prod.ext h2 (Prod.ext h3 h4)))).symm))

def S_laws_eqSource : Sum := { fid := 42, dom := [s91, s91], cod := [(.bool 4)], dp := true, fz := false, pre := fun x => True, g := fun x => (((Sh.eqB s91) x.1 x.2.1), ()) }
def S_laws_eqSource_tab : List (Nat × Sum) := [(90, S_laws_eqGenerationS), (118, S_laws_eqSendWindow), (119, S_laws_eqRecoderS), (120, S_laws_eqFeedbackTable)]
theorem S_laws_eqSource_ok : FnOK Try.prog 42 S_laws_eqSource := by
 refine at_enter 34 (fun x => ⟨[(0, aG [.ro s218 x.1.1, cI x.1.2.1.1, cI x.1.2.1.2.1, cI x.1.2.1.2.2.1, cI x.1.2.1.2.2.2, .ro s128 x.1.2.2.1, .ro s247 x.1.2.2.2.1, cI x.1.2.2.2.2]), (1, aG [.ro s218 x.2.1.1, cI x.2.1.2.1.1, cI x.2.1.2.1.2.1, cI x.2.1.2.1.2.2.1, cI x.2.1.2.1.2.2.2, .ro s128 x.2.1.2.2.1, .ro s247 x.2.1.2.2.2.1, cI x.2.1.2.2.2.2])], []⟩) Try.func42 rfl (by kernel_rfl) (fun x => rfl) ?_
 rintro w0 Z0 ⟨x0, x1, u⟩ a w
 revert x0 x1
 intro (x0 : T91) (x1 : T91) hpre hlens h
 replace h : At w0 Z0 [] 34 ⟨[(0, aG [.ro s218 x0.1, cI x0.2.1.1, cI x0.2.1.2.1, cI x0.2.1.2.2.1, cI x0.2.1.2.2.2, .ro s128 x0.2.2.1, .ro s247 x0.2.2.2.1, cI x0.2.2.2.2]), (1, aG [.ro s218 x1.1, cI x1.2.1.1, cI x1.2.1.2.1, cI x1.2.1.2.2.1, cI x1.2.1.2.2.2, .ro s128 x1.2.2.1, .ro s247 x1.2.2.2.1, cI x1.2.2.2.2])], []⟩ a w := h
 have hl1 : List.length x0.1 ≤ 9223372036854775807 := hlens.1.1.1
 have hl2 : List.length x0.2.2.1 ≤ 9223372036854775807 := hlens.1.2.2.1.1
 have hl3 : List.length x0.2.2.2.1 ≤ 9223372036854775807 := hlens.1.2.2.2.1.1
 have hl4 : List.length x1.1 ≤ 9223372036854775807 := hlens.2.1.1.1
 have hl5 : List.length x1.2.2.1 ≤ 9223372036854775807 := hlens.2.1.2.2.1.1
 have hl6 : List.length x1.2.2.2.1 ≤ 9223372036854775807 := hlens.2.1.2.2.2.1.1
 have hT : TabOK Try.prog S_laws_eqSource_tab := (.cons S_laws_eqGenerationS_ok (.cons S_laws_eqSendWindow_ok (.cons S_laws_eqRecoderS_ok (.cons S_laws_eqFeedbackTable_ok .nil))))
 refine wp_seq ?_
 refine at_regq [{ ids := [1] }, { ids := [2] }] { ts := [2, 3, 4], os := [1, 2] } [] gamOK hT h (by kernel_rfl) trivial fun a w h => then_normal (wp_seq (wp_seq ?_))
 refine at_regq [] { ts := [2, 3, 4, 10], os := [1, 2] } [True] gamOK hT h (by kernel_rfl) ⟨trivial, trivial⟩ fun a w h => then_normal ?_
 refine at_test (!((Sh.eqB s30) x0.1 x1.1)) h (by kernel_rfl) (fun h1 => ?_) (fun h1 => ?_)
 ·replace h1 : ((Sh.eqB s30) x0.1 x1.1) = false := notT h1
  refine wp_seq ?_
  refine at_regq [] { ts := [2, 3, 4], os := [1, 2] } [] gamOK hT h (by kernel_rfl) trivial fun a w h => then_normal (wp_ret (then_ret ?_))
  exact at_return (S := S_laws_eqSource) (x := (x0, x1, ())) (false, ()) [] h (by kernel_rfl) trivial (congrArg (fun z => (z, ())) (show (false) = (Sh.eqB s91) x0 x1 from by exact (Sh.eqB_ne (s := s91) (fun e => Sh.of_eqB_ne h1 (congrArg (fun (y : T91) => y.1) e))).symm))
 ·replace h1 : ((Sh.eqB s30) x0.1 x1.1) = true := notF h1
  refine wp_skip (then_normal (wp_seq (wp_seq ?_)))
  refine at_regq [] { ts := [2, 3, 4, 16], os := [1, 2] } [True] gamOK hT h (by kernel_rfl) ⟨trivial, trivial⟩ fun a w h => then_normal ?_
  refine at_test (!((Sh.eqB s85) x0.2.1 x1.2.1)) h (by kernel_rfl) (fun h2 => ?_) (fun h2 => ?_)
  ·replace h2 : ((Sh.eqB s85) x0.2.1 x1.2.1) = false := notT h2
   refine wp_seq ?_
   refine at_regq [] { ts := [2, 3, 4], os := [1, 2] } [] gamOK hT h (by kernel_rfl) trivial fun a w h => then_normal (wp_ret (then_ret ?_))
   exact at_return (S := S_laws_eqSource) (x := (x0, x1, ())) (false, ()) [] h (by kernel_rfl) trivial (congrArg (fun z => (z, ())) (show (false) = (Sh.eqB s91) x0 x1 from by exact (Sh.eqB_ne (s := s91) (fun e => Sh.of_eqB_ne h2 (congrArg (fun (y : T91) => y.2.1) e))).symm))
  ·replace h2 : ((Sh.eqB s85) x0.2.1 x1.2.1) = true := notF h2
   refine wp_skip (then_normal (wp_seq (wp_seq ?_)))
   refine at_regq [] { ts := [2, 3, 4, 22], os := [1, 2] } [True] gamOK hT h (by kernel_rfl) ⟨trivial, trivial⟩ fun a w h => then_normal ?_
   refine at_test (!((Sh.eqB s86) x0.2.2.1 x1.2.2.1)) h (by kernel_rfl) (fun h3 => ?_) (fun h3 => ?_)
   ·replace h3 : ((Sh.eqB s86) x0.2.2.1 x1.2.2.1) = false := notT h3
    refine wp_seq ?_
    refine at_regq [] { ts := [2, 3, 4], os := [1, 2] } [] gamOK hT h (by kernel_rfl) trivial fun a w h => then_normal (wp_ret (then_ret ?_))
    exact at_return (S := S_laws_eqSource) (x := (x0, x1, ())) (false, ()) [] h (by kernel_rfl) trivial (congrArg (fun z => (z, ())) (show (false) = (Sh.eqB s91) x0 x1 from by exact (Sh.eqB_ne (s := s91) (fun e => Sh.of_eqB_ne h3 (congrArg (fun (y : T91) => y.2.2.1) e))).symm))
   ·replace h3 : ((Sh.eqB s86) x0.2.2.1 x1.2.2.1) = true := notF h3
    refine wp_skip (then_normal (wp_seq (wp_seq ?_)))
    refine at_regq [] { ts := [2, 3, 4, 28], os := [1, 2] } [True] gamOK hT h (by kernel_rfl) ⟨trivial, trivial⟩ fun a w h => then_normal ?_
    refine at_test (!((Sh.eqB s89) x0.2.2.2.1 x1.2.2.2.1)) h (by kernel_rfl) (fun h4 => ?_) (fun h4 => ?_)
    ·replace h4 : ((Sh.eqB s89) x0.2.2.2.1 x1.2.2.2.1) = false := notT h4
     refine wp_seq ?_
     refine at_regq [] { ts := [2, 3, 4], os := [1, 2] } [] gamOK hT h (by kernel_rfl) trivial fun a w h => then_normal (wp_ret (then_ret ?_))
     exact at_return (S := S_laws_eqSource) (x := (x0, x1, ())) (false, ()) [] h (by kernel_rfl) trivial (congrArg (fun z => (z, ())) (show (false) = (Sh.eqB s91) x0 x1 from by exact (Sh.eqB_ne (s := s91) (fun e => Sh.of_eqB_ne h4 (congrArg (fun (y : T91) => y.2.2.2.1) e))).symm))
    ·replace h4 : ((Sh.eqB s89) x0.2.2.2.1 x1.2.2.2.1) = true := notF h4
     refine wp_skip (then_normal (wp_seq (wp_seq ?_)))
     refine at_regq [] { ts := [4, 33], os := [] } [] gamOK hT h (by kernel_rfl) trivial fun a w h => then_normal ?_
     refine at_test (!decide (x0.2.2.2.2 = x1.2.2.2.2)) h (by kernel_rfl) (fun h5 => ?_) (fun h5 => ?_)
     ·replace h5 : ¬ (x0.2.2.2.2 = x1.2.2.2.2) := of_decide_eq_false (notT h5)
      refine wp_seq ?_
      refine at_regq [] { ts := [4], os := [] } [] gamOK hT h (by kernel_rfl) trivial fun a w h => then_normal (wp_ret (then_ret ?_))
      exact at_return (S := S_laws_eqSource) (x := (x0, x1, ())) (false, ()) [] h (by kernel_rfl) trivial (congrArg (fun z => (z, ())) (show (false) = (Sh.eqB s91) x0 x1 from by exact (Sh.eqB_ne (s := s91) (fun e => h5 (congrArg (fun (y : T91) => y.2.2.2.2) e))).symm))
     ·replace h5 : x0.2.2.2.2 = x1.2.2.2.2 := of_decide_eq_true (notF h5)
      refine wp_skip (then_normal (wp_seq ?_))
      refine at_regq [] { ts := [4], os := [] } [] gamOK hT h (by kernel_rfl) trivial fun a w h => then_normal (wp_ret ?_)
      exact at_return (S := S_laws_eqSource) (x := (x0, x1, ())) (true, ()) [] h (by kernel_rfl) trivial (congrArg (fun z => (z, ())) (show (true) = (Sh.eqB s91) x0 x1 from by exact ((Sh.eqB_iff s91).2 (Prod.ext (Sh.of_eqB h1) (Prod.ext (Sh.of_eqB h2) (Prod.ext (Sh.of_eqB h3) (Prod.ext (Sh.of_eqB h4) h5))))).symm))

def S_laws_szIntS : Sum := { fid := 80, dom := [s22, (.int 3)], cod := [(.int 3)], dp := true, fz := false, pre := fun x => (pSz s22) x.1 x.2.1, g := fun x => (((szD s22) x.1 x.2.1), ()) }
def S_laws_szIntS_tab : List (Nat × Sum) := []
theorem S_laws_szIntS_ok : FnOK Try.prog 80 S_laws_szIntS := by
 refine at_enter 12 (fun x => ⟨[(0, aF (.int 3) x.1), (1, aI x.2.1)], []⟩) Try.func80 rfl (by kernel_rfl) (fun x => rfl) ?_
 rintro w0 Z0 ⟨x0, x1, u⟩ a w
 revert x0 x1
 intro (x0 : (List Int)) (x1 : Int) hpre hlens h
 replace h : At w0 Z0 [] 12 ⟨[(0, aF (.int 3) x0), (1, aI x1)], []⟩ a w := h
 replace hpre : (pSz s22) x0 x1 := hpre
 have hl1 : List.length x0 ≤ 9223372036854775807 := hlens.1.1
 have hT : TabOK Try.prog S_laws_szIntS_tab := .nil
 have hp : 0 ≤ x1 ∧ x1 ≤ 9223372036854775807 := hpre
 refine wp_seq ?_
 refine at_regq [] { ts := [0, 1, 4], os := [] } [] gamOK hT h (by kernel_rfl) trivial fun a w h => then_normal (wp_seq ?_)
 refine at_regq [{}, {}, {}, { nw := true }] { ts := [1, 4], os := [] } [I64 (x1 - ((List.length x0 : Nat) : Int))] gamOK hT h (by kernel_rfl) ⟨⟨by first | omega | (simp only [lsA]; omega) | (simp <;> omega), by first | omega | (simp only [lsA]; omega) | (simp <;> omega)⟩, trivial⟩ fun a w h => then_normal (wp_seq (wp_seq ?_))
 refine at_regq [] { ts := [1, 4, 10], os := [] } [] gamOK hT h (by kernel_rfl) trivial fun a w h => then_normal ?_
 refine at_test (decide (x1 - ((List.length x0 : Nat) : Int) < 0)) h (by kernel_rfl) (fun h1 => ?_) (fun h1 => ?_)
 ·replace h1 : x1 - ((List.length x0 : Nat) : Int) < 0 := of_decide_eq_true h1
  refine wp_seq ?_
  refine at_regq [] { ts := [1, 4], os := [] } [] gamOK hT h (by kernel_rfl) trivial fun a w h => then_normal (wp_ret (then_ret ?_))
  exact at_return (S := S_laws_szIntS) (x := (x0, x1, ())) ((-1), ()) [] h (by kernel_rfl) trivial (congrArg (fun z => (z, ())) (show ((-1)) = (szD s22) x0 x1 from by exact (szD_no (by rw [sz_flat (by rfl)]; omega)).symm))
 ·replace h1 : ¬ (x1 - ((List.length x0 : Nat) : Int) < 0) := of_decide_eq_false h1
  refine wp_skip (then_normal (wp_seq ?_))
  refine at_regq [] { ts := [4], os := [] } [] gamOK hT h (by kernel_rfl) trivial fun a w h => then_normal (wp_ret ?_)
  exact at_return (S := S_laws_szIntS) (x := (x0, x1, ())) (x1 - ((List.length x0 : Nat) : Int), ()) [] h (by kernel_rfl) trivial (congrArg (fun z => (z, ())) (show (x1 - ((List.length x0 : Nat) : Int)) = (szD s22) x0 x1 from by exact ((szD_ok (by rw [sz_flat (by rfl)]; omega)).trans (by rw [sz_flat (by rfl)])).symm))

def S_laws_szIntSS : Sum := { fid := 127, dom := [s97, (.int 3)], cod := [(.int 3)], dp := true, fz := false, pre := fun x => (pSz s97) x.1 x.2.1, g := fun x => (((szD s97) x.1 x.2.1), ()) }
def S_laws_szIntSS_tab : List (Nat × Sum) := [(80, S_laws_szIntS)]
theorem S_laws_szIntSS_ok : FnOK Try.prog 127 S_laws_szIntSS := by
 refine at_enter 27 (fun x => ⟨[(0, aF s22 x.1), (1, aI x.2.1)], []⟩) Try.func127 rfl (by kernel_rfl) (fun x => rfl) ?_
 rintro w0 Z0 ⟨x0, x1, u⟩ a w
 revert x0 x1
 intro (x0 : (List (List Int))) (x1 : Int) hpre hlens h
 replace h : At w0 Z0 [] 27 ⟨[(0, aF s22 x0), (1, aI x1)], []⟩ a w := h
 replace hpre : (pSz s97) x0 x1 := hpre
 have hl1 : List.length x0 ≤ 9223372036854775807 := hlens.1.1
 have hT : TabOK Try.prog S_laws_szIntSS_tab := (.cons S_laws_szIntS_ok .nil)
 have hp : 0 ≤ x1 ∧ x1 ≤ 9223372036854775807 := hpre
 have hsz : Sh.sz s97 x0 = List.length x0 + ctL (Sh.sz s22) x0 := rfl
 refine wp_seq ?_
 refine at_regq [] { ts := [0, 1, 4], os := [] } [] gamOK hT h (by kernel_rfl) trivial fun a w h => then_normal (wp_seq ?_)
 refine at_regq [{}, {}, {}, { nw := true }] { ts := [0, 1, 4], os := [] } [I64 (x1 - ((List.length x0 : Nat) : Int))] gamOK hT h (by kernel_rfl) ⟨⟨by first | omega | (simp only [lsA]; omega) | (simp <;> omega), by first | omega | (simp only [lsA]; omega) | (simp <;> omega)⟩, trivial⟩ fun a w h => then_normal (wp_seq (wp_seq ?_))
 refine at_regq [] { ts := [0, 1, 4, 11], os := [] } [] gamOK hT h (by kernel_rfl) trivial fun a w h => then_normal ?_
 refine at_test (decide (x1 - ((List.length x0 : Nat) : Int) < 0)) h (by kernel_rfl) (fun h1 => ?_) (fun h1 => ?_)
 ·replace h1 : x1 - ((List.length x0 : Nat) : Int) < 0 := of_decide_eq_true h1
  refine wp_seq ?_
  refine at_regq [] { ts := [0, 1, 4], os := [] } [] gamOK hT h (by kernel_rfl) trivial fun a w h => then_normal (wp_ret (then_ret ?_))
  exact at_return (S := S_laws_szIntSS) (x := (x0, x1, ())) ((-1), ()) [] h (by kernel_rfl) trivial (congrArg (fun z => (z, ())) (show ((-1)) = (szD s97) x0 x1 from by exact (szD_no (by omega)).symm))
 ·replace h1 : ¬ (x1 - ((List.length x0 : Nat) : Int) < 0) := of_decide_eq_false h1
  refine wp_skip (then_normal (wp_seq (wp_seq ?_)))
  refine at_regq [] { ts := [0, 1, 4, 5], os := [] } [] gamOK hT h (by kernel_rfl) trivial fun a w h => then_normal (wp_block ?_)
  replace h := at_out (σ' := ⟨[(0, aF s22 x0), (1, aI (x1 - ((List.length x0 : Nat) : Int))), (4, aI 0), (5, aI 0)], []⟩) { ts := [0, 1, 4, 5], os := [] } h (by kernel_rfl)
  refine at_loop (fun i : Nat => (⟨[(0, aF s22 x0), (1, aI (x1 - ((List.length x0 : Nat) : Int) - ((ctL (Sh.sz s22) (List.take i x0) : Nat) : Int))), (4, aI 0), (5, aI ((i : Nat) : Int))], []⟩ : St)) (fun i => (i ≤ List.length x0 ∧ ((List.length x0 : Nat) : Int) + ((ctL (Sh.sz s22) (List.take i x0) : Nat) : Int) ≤ x1)) (fun i => List.length x0 - i) (0) h (st_congr2 (fun (d0 : Int) (d1 : Int) => (⟨[(0, aF s22 x0), (1, aI d0), (4, aI 0), (5, aI d1)], []⟩ : St)) (show (x1 - ((List.length x0 : Nat) : Int) : Int) = (x1 - ((List.length x0 : Nat) : Int) - ((ctL (Sh.sz s22) (List.take (0) x0) : Nat) : Int)) from by first | with_reducible rfl | (simp [ctL]) | rfl) (show (0 : Int) = (((0) : Nat) : Int) from by first | with_reducible rfl | (simp [ctL]) | rfl)) (by simp [ctL]; omega) ?_
  intro i a w hok0 h
  refine wp_seq (wp_seq ?_)
  refine at_regq [] { ts := [0, 1, 4, 5, 15], os := [] } [] gamOK hT h (by kernel_rfl) trivial fun a w h => then_normal ?_
  refine at_test (decide (((i : Nat) : Int) < ((List.length x0 : Nat) : Int))) h (by kernel_rfl) (fun h2 => ?_) (fun h2 => ?_)
  ·replace h2 : ((i : Nat) : Int) < ((List.length x0 : Nat) : Int) := of_decide_eq_true h2
   have hat := ctL_at_le (c := Sh.sz s22) (xs := x0) (z := []) (i := i) (by omega)
   have hsu := ctL_take_succ (c := Sh.sz s22) (xs := x0) (z := []) (i := i) (by omega)
   refine wp_skip (then_normal (wp_seq (wp_block (wp_seq ?_))))
   refine at_regq [] { ts := [0, 1, 4, 5], os := [] } [(0 : Int) ≤ ((i : Nat) : Int) ∧ ((i : Nat) : Int) < ((List.length x0 : Nat) : Int), (pSz s22) (x0.getD i []) (x1 - ((List.length x0 : Nat) : Int) - ((ctL (Sh.sz s22) (List.take i x0) : Nat) : Int))] gamOK hT h (by kernel_rfl) ⟨(by refine ⟨?_, ?_⟩ <;> (first | omega | (simp only [lsA]; omega) | (simp <;> omega))), (by (show (0 : Int) ≤ _ ∧ _ ≤ (9223372036854775807 : Int); constructor <;> omega)), trivial⟩ fun a w h => then_normal (wp_seq ?_)
   refine at_regq [] { ts := [0, 1, 4, 5, 25], os := [] } [] gamOK hT h (by kernel_rfl) trivial fun a w h => then_normal ?_
   refine at_test (decide (((szD s22) (x0.getD i []) (x1 - ((List.length x0 : Nat) : Int) - ((ctL (Sh.sz s22) (List.take i x0) : Nat) : Int))) < 0)) h (by kernel_rfl) (fun h3 => ?_) (fun h3 => ?_)
   ·replace h3 : ((szD s22) (x0.getD i []) (x1 - ((List.length x0 : Nat) : Int) - ((ctL (Sh.sz s22) (List.take i x0) : Nat) : Int))) < 0 := of_decide_eq_true h3
    have hvh3 := szD_neg h3 (by omega)
    refine wp_seq ?_
    refine at_regq [] { ts := [0, 1, 4, 5], os := [] } [] gamOK hT h (by kernel_rfl) trivial fun a w h => then_normal (wp_ret (in_ret (then_ret (then_ret (in_ret (then_ret ?_))))))
    exact at_return (S := S_laws_szIntSS) (x := (x0, x1, ())) ((-1), ()) [] h (by kernel_rfl) trivial (congrArg (fun z => (z, ())) (show ((-1)) = (szD s97) x0 x1 from by exact (szD_no (by omega)).symm))
   ·replace h3 : ¬ (((szD s22) (x0.getD i []) (x1 - ((List.length x0 : Nat) : Int) - ((ctL (Sh.sz s22) (List.take i x0) : Nat) : Int))) < 0) := of_decide_eq_false h3
    have hvh3 := szD_val h3 (by omega)
    refine wp_skip (in_normal (then_normal ?_))
    refine at_regq [{}, { nw := true }] { ts := [0, 1, 4, 5], os := [] } [I64 (((i : Nat) : Int) + 1)] gamOK hT h (by kernel_rfl) ⟨⟨by first | omega | (simp only [lsA]; omega) | (simp <;> omega), by first | omega | (simp only [lsA]; omega) | (simp <;> omega)⟩, trivial⟩ fun a w h => ?_
    replace h := at_out (σ' := ⟨[(0, aF s22 x0), (1, aI ((szD s22) (x0.getD i []) (x1 - ((List.length x0 : Nat) : Int) - ((ctL (Sh.sz s22) (List.take i x0) : Nat) : Int)))), (4, aI 0), (5, aI (((i : Nat) : Int) + 1))], []⟩) { ts := [0, 1, 4, 5], os := [] } h (by kernel_rfl)
    exact ⟨i + 1, at_eq h (st_congr2 (fun (d0 : Int) (d1 : Int) => (⟨[(0, aF s22 x0), (1, aI d0), (4, aI 0), (5, aI d1)], []⟩ : St)) (show (((szD s22) (x0.getD i []) (x1 - ((List.length x0 : Nat) : Int) - ((ctL (Sh.sz s22) (List.take i x0) : Nat) : Int))) : Int) = (x1 - ((List.length x0 : Nat) : Int) - ((ctL (Sh.sz s22) (List.take (i + 1) x0) : Nat) : Int)) from by first | with_reducible rfl | (omega) | rfl) (show (((i : Nat) : Int) + 1 : Int) = (((i + 1) : Nat) : Int) from by first | with_reducible rfl | (omega) | rfl)), (by constructor <;> omega), (by omega)⟩
  ·replace h2 : ¬ (((i : Nat) : Int) < ((List.length x0 : Nat) : Int)) := of_decide_eq_false h2
   refine wp_exit (then_exit (then_exit (in_hit (then_normal (wp_seq ?_)))))
   refine at_regq [] { ts := [4], os := [] } [] gamOK hT h (by kernel_rfl) trivial fun a w h => then_normal (wp_ret ?_)
   exact at_return (S := S_laws_szIntSS) (x := (x0, x1, ())) ((x1 - ((List.length x0 : Nat) : Int) - ((ctL (Sh.sz s22) (List.take i x0) : Nat) : Int)), ()) [] h (by kernel_rfl) trivial (congrArg (fun z => (z, ())) (show ((x1 - ((List.length x0 : Nat) : Int) - ((ctL (Sh.sz s22) (List.take i x0) : Nat) : Int))) = (szD s97) x0 x1 from by (have hta : ctL (Sh.sz s22) (List.take i x0) = ctL (Sh.sz s22) x0 := congrArg (ctL (Sh.sz s22)) (take_all (by omega)); exact ((szD_ok (by omega)).trans (by omega)).symm)))

def S_laws_szCodedPacket : Sum := { fid := 53, dom := [s44, (.int 3)], cod := [(.int 3)], dp := true, fz := false, pre := fun x => (pSz s44) x.1 x.2.1, g := fun x => (((szD s44) x.1 x.2.1), ()) }
def S_laws_szCodedPacket_tab : List (Nat × Sum) := [(80, S_laws_szIntS)]
theorem S_laws_szCodedPacket_ok : FnOK Try.prog 53 S_laws_szCodedPacket := by
 refine at_enter 18 (fun x => ⟨[(0, aG [cI x.1.1, .ro (.int 3) x.1.2.1, .ro (.int 3) x.1.2.2]), (1, aI x.2.1)], []⟩) Try.func53 rfl (by kernel_rfl) (fun x => rfl) ?_
 rintro w0 Z0 ⟨x0, x1, u⟩ a w
 revert x0 x1
 intro (x0 : T44) (x1 : Int) hpre hlens h
 replace h : At w0 Z0 [] 18 ⟨[(0, aG [cI x0.1, .ro (.int 3) x0.2.1, .ro (.int 3) x0.2.2]), (1, aI x1)], []⟩ a w := h
 replace hpre : (pSz s44) x0 x1 := hpre
 have hl1 : List.length x0.2.1 ≤ 9223372036854775807 := hlens.1.2.1.1
 have hl2 : List.length x0.2.2 ≤ 9223372036854775807 := hlens.1.2.2.1
 have hT : TabOK Try.prog S_laws_szCodedPacket_tab := (.cons S_laws_szIntS_ok .nil)
 have hp : 0 ≤ x1 ∧ x1 ≤ 9223372036854775807 := hpre
 have hsz : Sh.sz s44 x0 = (0 + ((Sh.sz s22 x0.2.1) + (Sh.sz s22 x0.2.2))) := rfl
 refine wp_seq ?_
 refine at_regq [{ ids := [1] }] { ts := [1, 2, 4], os := [1] } [] gamOK hT h (by kernel_rfl) trivial fun a w h => then_normal (wp_seq ?_)
 refine at_regq [] { ts := [1, 2, 4], os := [1] } [(pSz s22) x0.2.1 x1] gamOK hT h (by kernel_rfl) ⟨(by (show (0 : Int) ≤ _ ∧ _ ≤ (9223372036854775807 : Int); constructor <;> omega)), trivial⟩ fun a w h => then_normal (wp_seq (wp_seq ?_))
 refine at_regq [] { ts := [1, 2, 4, 10], os := [1] } [] gamOK hT h (by kernel_rfl) trivial fun a w h => then_normal ?_
 refine at_test (decide (((szD s22) x0.2.1 x1) < 0)) h (by kernel_rfl) (fun h1 => ?_) (fun h1 => ?_)
 ·replace h1 : ((szD s22) x0.2.1 x1) < 0 := of_decide_eq_true h1
  have hvh1 := szD_neg h1 (by omega)
  refine wp_seq ?_
  refine at_regq [] { ts := [1, 2, 4], os := [1] } [] gamOK hT h (by kernel_rfl) trivial fun a w h => then_normal (wp_ret (then_ret ?_))
  exact at_return (S := S_laws_szCodedPacket) (x := (x0, x1, ())) ((-1), ()) [] h (by kernel_rfl) trivial (congrArg (fun z => (z, ())) (show ((-1)) = (szD s44) x0 x1 from by (first | exact (szD_no (by omega)).symm | exact ((szD_ok (by omega)).trans (by omega)).symm)))
 ·replace h1 : ¬ (((szD s22) x0.2.1 x1) < 0) := of_decide_eq_false h1
  have hvh1 := szD_val h1 (by omega)
  refine wp_skip (then_normal (wp_seq ?_))
  refine at_regq [] { ts := [1, 4], os := [] } [(pSz s22) x0.2.2 ((szD s22) x0.2.1 x1)] gamOK hT h (by kernel_rfl) ⟨(by (show (0 : Int) ≤ _ ∧ _ ≤ (9223372036854775807 : Int); constructor <;> omega)), trivial⟩ fun a w h => then_normal (wp_seq (wp_seq ?_))
  refine at_regq [] { ts := [1, 4, 16], os := [] } [] gamOK hT h (by kernel_rfl) trivial fun a w h => then_normal ?_
  refine at_test (decide (((szD s22) x0.2.2 ((szD s22) x0.2.1 x1)) < 0)) h (by kernel_rfl) (fun h2 => ?_) (fun h2 => ?_)
  ·replace h2 : ((szD s22) x0.2.2 ((szD s22) x0.2.1 x1)) < 0 := of_decide_eq_true h2
   have hvh2 := szD_neg h2 (by omega)
   refine wp_seq ?_
   refine at_regq [] { ts := [1, 4], os := [] } [] gamOK hT h (by kernel_rfl) trivial fun a w h => then_normal (wp_ret (then_ret ?_))
   exact at_return (S := S_laws_szCodedPacket) (x := (x0, x1, ())) ((-1), ()) [] h (by kernel_rfl) trivial (congrArg (fun z => (z, ())) (show ((-1)) = (szD s44) x0 x1 from by (first | exact (szD_no (by omega)).symm | exact ((szD_ok (by omega)).trans (by omega)).symm)))
  ·replace h2 : ¬ (((szD s22) x0.2.2 ((szD s22) x0.2.1 x1)) < 0) := of_decide_eq_false h2
   have hvh2 := szD_val h2 (by omega)
   refine wp_skip (then_normal (wp_seq ?_))
   refine at_regq [] { ts := [4], os := [] } [] gamOK hT h (by kernel_rfl) trivial fun a w h => then_normal (wp_ret ?_)
   exact at_return (S := S_laws_szCodedPacket) (x := (x0, x1, ())) (((szD s22) x0.2.2 ((szD s22) x0.2.1 x1)), ()) [] h (by kernel_rfl) trivial (congrArg (fun z => (z, ())) (show (((szD s22) x0.2.2 ((szD s22) x0.2.1 x1))) = (szD s44) x0 x1 from by (first | exact (szD_no (by omega)).symm | exact ((szD_ok (by omega)).trans (by omega)).symm)))

def S_laws_szCodedPacketS : Sum := { fid := 149, dom := [s122, (.int 3)], cod := [(.int 3)], dp := true, fz := false, pre := fun x => (pSz s122) x.1 x.2.1, g := fun x => (((szD s122) x.1 x.2.1), ()) }
def S_laws_szCodedPacketS_tab : List (Nat × Sum) := [(53, S_laws_szCodedPacket)]
theorem S_laws_szCodedPacketS_ok : FnOK Try.prog 149 S_laws_szCodedPacketS := by
 refine at_enter 27 (fun x => ⟨[(0, aF s44 x.1), (1, aI x.2.1)], []⟩) Try.func149 rfl (by kernel_rfl) (fun x => rfl) ?_
 rintro w0 Z0 ⟨x0, x1, u⟩ a w
 revert x0 x1
 intro (x0 : (List T44)) (x1 : Int) hpre hlens h
 replace h : At w0 Z0 [] 27 ⟨[(0, aF s44 x0), (1, aI x1)], []⟩ a w := h
 replace hpre : (pSz s122) x0 x1 := hpre
 have hl1 : List.length x0 ≤ 9223372036854775807 := hlens.1.1
 have hT : TabOK Try.prog S_laws_szCodedPacketS_tab := (.cons S_laws_szCodedPacket_ok .nil)
 have hp : 0 ≤ x1 ∧ x1 ≤ 9223372036854775807 := hpre
 have hsz : Sh.sz s122 x0 = List.length x0 + ctL (Sh.sz s44) x0 := rfl
 refine wp_seq ?_
 refine at_regq [] { ts := [0, 1, 4], os := [] } [] gamOK hT h (by kernel_rfl) trivial fun a w h => then_normal (wp_seq ?_)
 refine at_regq [{}, {}, {}, { nw := true }] { ts := [0, 1, 4], os := [] } [I64 (x1 - ((List.length x0 : Nat) : Int))] gamOK hT h (by kernel_rfl) ⟨⟨by first | omega | (simp only [lsA]; omega) | (simp <;> omega), by first | omega | (simp only [lsA]; omega) | (simp <;> omega)⟩, trivial⟩ fun a w h => then_normal (wp_seq (wp_seq ?_))
 refine at_regq [] { ts := [0, 1, 4, 11], os := [] } [] gamOK hT h (by kernel_rfl) trivial fun a w h => then_normal ?_
 refine at_test (decide (x1 - ((List.length x0 : Nat) : Int) < 0)) h (by kernel_rfl) (fun h1 => ?_) (fun h1 => ?_)
 ·replace h1 : x1 - ((List.length x0 : Nat) : Int) < 0 := of_decide_eq_true h1
  refine wp_seq ?_
  refine at_regq [] { ts := [0, 1, 4], os := [] } [] gamOK hT h (by kernel_rfl) trivial fun a w h => then_normal (wp_ret (then_ret ?_))
  exact at_return (S := S_laws_szCodedPacketS) (x := (x0, x1, ())) ((-1), ()) [] h (by kernel_rfl) trivial (congrArg (fun z => (z, ())) (show ((-1)) = (szD s122) x0 x1 from by exact (szD_no (by omega)).symm))
 ·replace h1 : ¬ (x1 - ((List.length x0 : Nat) : Int) < 0) := of_decide_eq_false h1
  refine wp_skip (then_normal (wp_seq (wp_seq ?_)))
  refine at_regq [] { ts := [0, 1, 4, 5], os := [] } [] gamOK hT h (by kernel_rfl) trivial fun a w h => then_normal (wp_block ?_)
  replace h := at_out (σ' := ⟨[(0, aF s44 x0), (1, aI (x1 - ((List.length x0 : Nat) : Int))), (4, aI 0), (5, aI 0)], []⟩) { ts := [0, 1, 4, 5], os := [] } h (by kernel_rfl)
  refine at_loop (fun i : Nat => (⟨[(0, aF s44 x0), (1, aI (x1 - ((List.length x0 : Nat) : Int) - ((ctL (Sh.sz s44) (List.take i x0) : Nat) : Int))), (4, aI 0), (5, aI ((i : Nat) : Int))], []⟩ : St)) (fun i => (i ≤ List.length x0 ∧ ((List.length x0 : Nat) : Int) + ((ctL (Sh.sz s44) (List.take i x0) : Nat) : Int) ≤ x1)) (fun i => List.length x0 - i) (0) h (st_congr2 (fun (d0 : Int) (d1 : Int) => (⟨[(0, aF s44 x0), (1, aI d0), (4, aI 0), (5, aI d1)], []⟩ : St)) (show (x1 - ((List.length x0 : Nat) : Int) : Int) = (x1 - ((List.length x0 : Nat) : Int) - ((ctL (Sh.sz s44) (List.take (0) x0) : Nat) : Int)) from by first | with_reducible rfl | (simp [ctL]) | rfl) (show (0 : Int) = (((0) : Nat) : Int) from by first | with_reducible rfl | (simp [ctL]) | rfl)) (by simp [ctL]; omega) ?_
  intro i a w hok0 h
  refine wp_seq (wp_seq ?_)
  refine at_regq [] { ts := [0, 1, 4, 5, 15], os := [] } [] gamOK hT h (by kernel_rfl) trivial fun a w h => then_normal ?_
  refine at_test (decide (((i : Nat) : Int) < ((List.length x0 : Nat) : Int))) h (by kernel_rfl) (fun h2 => ?_) (fun h2 => ?_)
  ·replace h2 : ((i : Nat) : Int) < ((List.length x0 : Nat) : Int) := of_decide_eq_true h2
   have hat := ctL_at_le (c := Sh.sz s44) (xs := x0) (z := (0, ([], []))) (i := i) (by omega)
   have hsu := ctL_take_succ (c := Sh.sz s44) (xs := x0) (z := (0, ([], []))) (i := i) (by omega)
   refine wp_skip (then_normal (wp_seq (wp_block (wp_seq ?_))))
   refine at_regq [] { ts := [0, 1, 4, 5], os := [] } [(0 : Int) ≤ ((i : Nat) : Int) ∧ ((i : Nat) : Int) < ((List.length x0 : Nat) : Int), (pSz s44) (x0.getD i (0, ([], []))) (x1 - ((List.length x0 : Nat) : Int) - ((ctL (Sh.sz s44) (List.take i x0) : Nat) : Int))] gamOK hT h (by kernel_rfl) ⟨(by refine ⟨?_, ?_⟩ <;> (first | omega | (simp only [lsA]; omega) | (simp <;> omega))), (by (show (0 : Int) ≤ _ ∧ _ ≤ (9223372036854775807 : Int); constructor <;> omega)), trivial⟩ fun a w h => then_normal (wp_seq ?_)
   refine at_regq [] { ts := [0, 1, 4, 5, 25], os := [] } [] gamOK hT h (by kernel_rfl) trivial fun a w h => then_normal ?_
   refine at_test (decide (((szD s44) (x0.getD i (0, ([], []))) (x1 - ((List.length x0 : Nat) : Int) - ((ctL (Sh.sz s44) (List.take i x0) : Nat) : Int))) < 0)) h (by kernel_rfl) (fun h3 => ?_) (fun h3 => ?_)
   ·replace h3 : ((szD s44) (x0.getD i (0, ([], []))) (x1 - ((List.length x0 : Nat) : Int) - ((ctL (Sh.sz s44) (List.take i x0) : Nat) : Int))) < 0 := of_decide_eq_true h3
    have hvh3 := szD_neg h3 (by omega)
    refine wp_seq ?_
    refine at_regq [] { ts := [0, 1, 4, 5], os := [] } [] gamOK hT h (by kernel_rfl) trivial fun a w h => then_normal (wp_ret (in_ret (then_ret (then_ret (in_ret (then_ret ?_))))))
    exact at_return (S := S_laws_szCodedPacketS) (x := (x0, x1, ())) ((-1), ()) [] h (by kernel_rfl) trivial (congrArg (fun z => (z, ())) (show ((-1)) = (szD s122) x0 x1 from by exact (szD_no (by omega)).symm))
   ·replace h3 : ¬ (((szD s44) (x0.getD i (0, ([], []))) (x1 - ((List.length x0 : Nat) : Int) - ((ctL (Sh.sz s44) (List.take i x0) : Nat) : Int))) < 0) := of_decide_eq_false h3
    have hvh3 := szD_val h3 (by omega)
    refine wp_skip (in_normal (then_normal ?_))
    refine at_regq [{}, { nw := true }] { ts := [0, 1, 4, 5], os := [] } [I64 (((i : Nat) : Int) + 1)] gamOK hT h (by kernel_rfl) ⟨⟨by first | omega | (simp only [lsA]; omega) | (simp <;> omega), by first | omega | (simp only [lsA]; omega) | (simp <;> omega)⟩, trivial⟩ fun a w h => ?_
    replace h := at_out (σ' := ⟨[(0, aF s44 x0), (1, aI ((szD s44) (x0.getD i (0, ([], []))) (x1 - ((List.length x0 : Nat) : Int) - ((ctL (Sh.sz s44) (List.take i x0) : Nat) : Int)))), (4, aI 0), (5, aI (((i : Nat) : Int) + 1))], []⟩) { ts := [0, 1, 4, 5], os := [] } h (by kernel_rfl)
    exact ⟨i + 1, at_eq h (st_congr2 (fun (d0 : Int) (d1 : Int) => (⟨[(0, aF s44 x0), (1, aI d0), (4, aI 0), (5, aI d1)], []⟩ : St)) (show (((szD s44) (x0.getD i (0, ([], []))) (x1 - ((List.length x0 : Nat) : Int) - ((ctL (Sh.sz s44) (List.take i x0) : Nat) : Int))) : Int) = (x1 - ((List.length x0 : Nat) : Int) - ((ctL (Sh.sz s44) (List.take (i + 1) x0) : Nat) : Int)) from by first | with_reducible rfl | (omega) | rfl) (show (((i : Nat) : Int) + 1 : Int) = (((i + 1) : Nat) : Int) from by first | with_reducible rfl | (omega) | rfl)), (by constructor <;> omega), (by omega)⟩
  ·replace h2 : ¬ (((i : Nat) : Int) < ((List.length x0 : Nat) : Int)) := of_decide_eq_false h2
   refine wp_exit (then_exit (then_exit (in_hit (then_normal (wp_seq ?_)))))
   refine at_regq [] { ts := [4], os := [] } [] gamOK hT h (by kernel_rfl) trivial fun a w h => then_normal (wp_ret ?_)
   exact at_return (S := S_laws_szCodedPacketS) (x := (x0, x1, ())) ((x1 - ((List.length x0 : Nat) : Int) - ((ctL (Sh.sz s44) (List.take i x0) : Nat) : Int)), ()) [] h (by kernel_rfl) trivial (congrArg (fun z => (z, ())) (show ((x1 - ((List.length x0 : Nat) : Int) - ((ctL (Sh.sz s44) (List.take i x0) : Nat) : Int))) = (szD s122) x0 x1 from by (have hta : ctL (Sh.sz s44) (List.take i x0) = ctL (Sh.sz s44) x0 := congrArg (ctL (Sh.sz s44)) (take_all (by omega)); exact ((szD_ok (by omega)).trans (by omega)).symm)))

def S_laws_szFeedbackS : Sum := { fid := 200, dom := [s79, (.int 3)], cod := [(.int 3)], dp := true, fz := false, pre := fun x => (pSz s79) x.1 x.2.1, g := fun x => (((szD s79) x.1 x.2.1), ()) }
def S_laws_szFeedbackS_tab : List (Nat × Sum) := []
theorem S_laws_szFeedbackS_ok : FnOK Try.prog 200 S_laws_szFeedbackS := by
 refine at_enter 12 (fun x => ⟨[(0, aF s285 x.1), (1, aI x.2.1)], []⟩) Try.func200 rfl (by kernel_rfl) (fun x => rfl) ?_
 rintro w0 Z0 ⟨x0, x1, u⟩ a w
 revert x0 x1
 intro (x0 : (List T285)) (x1 : Int) hpre hlens h
 replace h : At w0 Z0 [] 12 ⟨[(0, aF s285 x0), (1, aI x1)], []⟩ a w := h
 replace hpre : (pSz s79) x0 x1 := hpre
 have hl1 : List.length x0 ≤ 9223372036854775807 := hlens.1.1
 have hT : TabOK Try.prog S_laws_szFeedbackS_tab := .nil
 have hp : 0 ≤ x1 ∧ x1 ≤ 9223372036854775807 := hpre
 refine wp_seq ?_
 refine at_regq [] { ts := [0, 1, 4], os := [] } [] gamOK hT h (by kernel_rfl) trivial fun a w h => then_normal (wp_seq ?_)
 refine at_regq [{}, {}, {}, { nw := true }] { ts := [1, 4], os := [] } [I64 (x1 - ((List.length x0 : Nat) : Int))] gamOK hT h (by kernel_rfl) ⟨⟨by first | omega | (simp only [lsA]; omega) | (simp <;> omega), by first | omega | (simp only [lsA]; omega) | (simp <;> omega)⟩, trivial⟩ fun a w h => then_normal (wp_seq (wp_seq ?_))
 refine at_regq [] { ts := [1, 4, 10], os := [] } [] gamOK hT h (by kernel_rfl) trivial fun a w h => then_normal ?_
 refine at_test (decide (x1 - ((List.length x0 : Nat) : Int) < 0)) h (by kernel_rfl) (fun h1 => ?_) (fun h1 => ?_)
 ·replace h1 : x1 - ((List.length x0 : Nat) : Int) < 0 := of_decide_eq_true h1
  refine wp_seq ?_
  refine at_regq [] { ts := [1, 4], os := [] } [] gamOK hT h (by kernel_rfl) trivial fun a w h => then_normal (wp_ret (then_ret ?_))
  exact at_return (S := S_laws_szFeedbackS) (x := (x0, x1, ())) ((-1), ()) [] h (by kernel_rfl) trivial (congrArg (fun z => (z, ())) (show ((-1)) = (szD s79) x0 x1 from by exact (szD_no (by rw [sz_flat (by rfl)]; omega)).symm))
 ·replace h1 : ¬ (x1 - ((List.length x0 : Nat) : Int) < 0) := of_decide_eq_false h1
  refine wp_skip (then_normal (wp_seq ?_))
  refine at_regq [] { ts := [4], os := [] } [] gamOK hT h (by kernel_rfl) trivial fun a w h => then_normal (wp_ret ?_)
  exact at_return (S := S_laws_szFeedbackS) (x := (x0, x1, ())) (x1 - ((List.length x0 : Nat) : Int), ()) [] h (by kernel_rfl) trivial (congrArg (fun z => (z, ())) (show (x1 - ((List.length x0 : Nat) : Int)) = (szD s79) x0 x1 from by exact ((szD_ok (by rw [sz_flat (by rfl)]; omega)).trans (by rw [sz_flat (by rfl)])).symm))

def S_laws_szFeedbackTable : Sum := { fid := 110, dom := [s81, (.int 3)], cod := [(.int 3)], dp := true, fz := false, pre := fun x => (pSz s81) x.1 x.2.1, g := fun x => (((szD s81) x.1 x.2.1), ()) }
def S_laws_szFeedbackTable_tab : List (Nat × Sum) := [(200, S_laws_szFeedbackS)]
theorem S_laws_szFeedbackTable_ok : FnOK Try.prog 110 S_laws_szFeedbackTable := by
 refine at_enter 12 (fun x => ⟨[(0, aG [.ro s285 x.1]), (1, aI x.2.1)], []⟩) Try.func110 rfl (by kernel_rfl) (fun x => rfl) ?_
 rintro w0 Z0 ⟨x0, x1, u⟩ a w
 revert x0 x1
 intro (x0 : (List T285)) (x1 : Int) hpre hlens h
 replace h : At w0 Z0 [] 12 ⟨[(0, aG [.ro s285 x0]), (1, aI x1)], []⟩ a w := h
 replace hpre : (pSz s81) x0 x1 := hpre
 have hl1 : List.length x0 ≤ 9223372036854775807 := hlens.1.1
 have hT : TabOK Try.prog S_laws_szFeedbackTable_tab := (.cons S_laws_szFeedbackS_ok .nil)
 have hp : 0 ≤ x1 ∧ x1 ≤ 9223372036854775807 := hpre
 have hsz : Sh.sz s81 x0 = (Sh.sz s79 x0) := rfl
 refine wp_seq ?_
 refine at_regq [{ ids := [1] }] { ts := [1, 2, 4], os := [1] } [] gamOK hT h (by kernel_rfl) trivial fun a w h => then_normal (wp_seq ?_)
 refine at_regq [] { ts := [1, 4], os := [] } [(pSz s79) x0 x1] gamOK hT h (by kernel_rfl) ⟨(by (show (0 : Int) ≤ _ ∧ _ ≤ (9223372036854775807 : Int); constructor <;> omega)), trivial⟩ fun a w h => then_normal (wp_seq (wp_seq ?_))
 refine at_regq [] { ts := [1, 4, 10], os := [] } [] gamOK hT h (by kernel_rfl) trivial fun a w h => then_normal ?_
 refine at_test (decide (((szD s79) x0 x1) < 0)) h (by kernel_rfl) (fun h1 => ?_) (fun h1 => ?_)
 ·replace h1 : ((szD s79) x0 x1) < 0 := of_decide_eq_true h1
  have hvh1 := szD_neg h1 (by omega)
  refine wp_seq ?_
  refine at_regq [] { ts := [1, 4], os := [] } [] gamOK hT h (by kernel_rfl) trivial fun a w h => then_normal (wp_ret (then_ret ?_))
  exact at_return (S := S_laws_szFeedbackTable) (x := (x0, x1, ())) ((-1), ()) [] h (by kernel_rfl) trivial (congrArg (fun z => (z, ())) (show ((-1)) = (szD s81) x0 x1 from by (first | exact (szD_no (by omega)).symm | exact ((szD_ok (by omega)).trans (by omega)).symm)))
 ·replace h1 : ¬ (((szD s79) x0 x1) < 0) := of_decide_eq_false h1
  have hvh1 := szD_val h1 (by omega)
  refine wp_skip (then_normal (wp_seq ?_))
  refine at_regq [] { ts := [4], os := [] } [] gamOK hT h (by kernel_rfl) trivial fun a w h => then_normal (wp_ret ?_)
  exact at_return (S := S_laws_szFeedbackTable) (x := (x0, x1, ())) (((szD s79) x0 x1), ()) [] h (by kernel_rfl) trivial (congrArg (fun z => (z, ())) (show (((szD s79) x0 x1)) = (szD s81) x0 x1 from by (first | exact (szD_no (by omega)).symm | exact ((szD_ok (by omega)).trans (by omega)).symm)))

def S_laws_szGeneration : Sum := { fid := 178, dom := [s223, (.int 3)], cod := [(.int 3)], dp := true, fz := false, pre := fun x => (pSz s223) x.1 x.2.1, g := fun x => (((szD s223) x.1 x.2.1), ()) }
def S_laws_szGeneration_tab : List (Nat × Sum) := [(127, S_laws_szIntSS)]
theorem S_laws_szGeneration_ok : FnOK Try.prog 178 S_laws_szGeneration := by
 refine at_enter 12 (fun x => ⟨[(0, aG [cI x.1.1, .ro s22 x.1.2]), (1, aI x.2.1)], []⟩) Try.func178 rfl (by kernel_rfl) (fun x => rfl) ?_
 rintro w0 Z0 ⟨x0, x1, u⟩ a w
 revert x0 x1
 intro (x0 : T223) (x1 : Int) hpre hlens h
 replace h : At w0 Z0 [] 12 ⟨[(0, aG [cI x0.1, .ro s22 x0.2]), (1, aI x1)], []⟩ a w := h
 replace hpre : (pSz s223) x0 x1 := hpre
 have hl1 : List.length x0.2 ≤ 9223372036854775807 := hlens.1.2.1
 have hT : TabOK Try.prog S_laws_szGeneration_tab := (.cons S_laws_szIntSS_ok .nil)
 have hp : 0 ≤ x1 ∧ x1 ≤ 9223372036854775807 := hpre
 have hsz : Sh.sz s223 x0 = (0 + (Sh.sz s97 x0.2)) := rfl
 refine wp_seq ?_
 refine at_regq [{ ids := [1] }] { ts := [1, 2, 4], os := [1] } [] gamOK hT h (by kernel_rfl) trivial fun a w h => then_normal (wp_seq ?_)
 refine at_regq [] { ts := [1, 4], os := [] } [(pSz s97) x0.2 x1] gamOK hT h (by kernel_rfl) ⟨(by (show (0 : Int) ≤ _ ∧ _ ≤ (9223372036854775807 : Int); constructor <;> omega)), trivial⟩ fun a w h => then_normal (wp_seq (wp_seq ?_))
 refine at_regq [] { ts := [1, 4, 10], os := [] } [] gamOK hT h (by kernel_rfl) trivial fun a w h => then_normal ?_
 refine at_test (decide (((szD s97) x0.2 x1) < 0)) h (by kernel_rfl) (fun h1 => ?_) (fun h1 => ?_)
 ·replace h1 : ((szD s97) x0.2 x1) < 0 := of_decide_eq_true h1
  have hvh1 := szD_neg h1 (by omega)
  refine wp_seq ?_
  refine at_regq [] { ts := [1, 4], os := [] } [] gamOK hT h (by kernel_rfl) trivial fun a w h => then_normal (wp_ret (then_ret ?_))
  exact at_return (S := S_laws_szGeneration) (x := (x0, x1, ())) ((-1), ()) [] h (by kernel_rfl) trivial (congrArg (fun z => (z, ())) (show ((-1)) = (szD s223) x0 x1 from by (first | exact (szD_no (by omega)).symm | exact ((szD_ok (by omega)).trans (by omega)).symm)))
 ·replace h1 : ¬ (((szD s97) x0.2 x1) < 0) := of_decide_eq_false h1
  have hvh1 := szD_val h1 (by omega)
  refine wp_skip (then_normal (wp_seq ?_))
  refine at_regq [] { ts := [4], os := [] } [] gamOK hT h (by kernel_rfl) trivial fun a w h => then_normal (wp_ret ?_)
  exact at_return (S := S_laws_szGeneration) (x := (x0, x1, ())) (((szD s97) x0.2 x1), ()) [] h (by kernel_rfl) trivial (congrArg (fun z => (z, ())) (show (((szD s97) x0.2 x1)) = (szD s223) x0 x1 from by (first | exact (szD_no (by omega)).symm | exact ((szD_ok (by omega)).trans (by omega)).symm)))

def S_laws_szGenerationS : Sum := { fid := 82, dom := [s24, (.int 3)], cod := [(.int 3)], dp := true, fz := false, pre := fun x => (pSz s24) x.1 x.2.1, g := fun x => (((szD s24) x.1 x.2.1), ()) }
def S_laws_szGenerationS_tab : List (Nat × Sum) := [(178, S_laws_szGeneration)]
theorem S_laws_szGenerationS_ok : FnOK Try.prog 82 S_laws_szGenerationS := by
 refine at_enter 27 (fun x => ⟨[(0, aF s223 x.1), (1, aI x.2.1)], []⟩) Try.func82 rfl (by kernel_rfl) (fun x => rfl) ?_
 rintro w0 Z0 ⟨x0, x1, u⟩ a w
 revert x0 x1
 intro (x0 : (List T223)) (x1 : Int) hpre hlens h
 replace h : At w0 Z0 [] 27 ⟨[(0, aF s223 x0), (1, aI x1)], []⟩ a w := h
 replace hpre : (pSz s24) x0 x1 := hpre
 have hl1 : List.length x0 ≤ 9223372036854775807 := hlens.1.1
 have hT : TabOK Try.prog S_laws_szGenerationS_tab := (.cons S_laws_szGeneration_ok .nil)
 have hp : 0 ≤ x1 ∧ x1 ≤ 9223372036854775807 := hpre
 have hsz : Sh.sz s24 x0 = List.length x0 + ctL (Sh.sz s223) x0 := rfl
 refine wp_seq ?_
 refine at_regq [] { ts := [0, 1, 4], os := [] } [] gamOK hT h (by kernel_rfl) trivial fun a w h => then_normal (wp_seq ?_)
 refine at_regq [{}, {}, {}, { nw := true }] { ts := [0, 1, 4], os := [] } [I64 (x1 - ((List.length x0 : Nat) : Int))] gamOK hT h (by kernel_rfl) ⟨⟨by first | omega | (simp only [lsA]; omega) | (simp <;> omega), by first | omega | (simp only [lsA]; omega) | (simp <;> omega)⟩, trivial⟩ fun a w h => then_normal (wp_seq (wp_seq ?_))
 refine at_regq [] { ts := [0, 1, 4, 11], os := [] } [] gamOK hT h (by kernel_rfl) trivial fun a w h => then_normal ?_
 refine at_test (decide (x1 - ((List.length x0 : Nat) : Int) < 0)) h (by kernel_rfl) (fun h1 => ?_) (fun h1 => ?_)
 ·replace h1 : x1 - ((List.length x0 : Nat) : Int) < 0 := of_decide_eq_true h1
  refine wp_seq ?_
  refine at_regq [] { ts := [0, 1, 4], os := [] } [] gamOK hT h (by kernel_rfl) trivial fun a w h => then_normal (wp_ret (then_ret ?_))
  exact at_return (S := S_laws_szGenerationS) (x := (x0, x1, ())) ((-1), ()) [] h (by kernel_rfl) trivial (congrArg (fun z => (z, ())) (show ((-1)) = (szD s24) x0 x1 from by exact (szD_no (by omega)).symm))
 ·replace h1 : ¬ (x1 - ((List.length x0 : Nat) : Int) < 0) := of_decide_eq_false h1
  refine wp_skip (then_normal (wp_seq (wp_seq ?_)))
  refine at_regq [] { ts := [0, 1, 4, 5], os := [] } [] gamOK hT h (by kernel_rfl) trivial fun a w h => then_normal (wp_block ?_)
  replace h := at_out (σ' := ⟨[(0, aF s223 x0), (1, aI (x1 - ((List.length x0 : Nat) : Int))), (4, aI 0), (5, aI 0)], []⟩) { ts := [0, 1, 4, 5], os := [] } h (by kernel_rfl)
  refine at_loop (fun i : Nat => (⟨[(0, aF s223 x0), (1, aI (x1 - ((List.length x0 : Nat) : Int) - ((ctL (Sh.sz s223) (List.take i x0) : Nat) : Int))), (4, aI 0), (5, aI ((i : Nat) : Int))], []⟩ : St)) (fun i => (i ≤ List.length x0 ∧ ((List.length x0 : Nat) : Int) + ((ctL (Sh.sz s223) (List.take i x0) : Nat) : Int) ≤ x1)) (fun i => List.length x0 - i) (0) h (st_congr2 (fun (d0 : Int) (d1 : Int) => (⟨[(0, aF s223 x0), (1, aI d0), (4, aI 0), (5, aI d1)], []⟩ : St)) (show (x1 - ((List.length x0 : Nat) : Int) : Int) = (x1 - ((List.length x0 : Nat) : Int) - ((ctL (Sh.sz s223) (List.take (0) x0) : Nat) : Int)) from by first | with_reducible rfl | (simp [ctL]) | rfl) (show (0 : Int) = (((0) : Nat) : Int) from by first | with_reducible rfl | (simp [ctL]) | rfl)) (by simp [ctL]; omega) ?_
  intro i a w hok0 h
  refine wp_seq (wp_seq ?_)
  refine at_regq [] { ts := [0, 1, 4, 5, 15], os := [] } [] gamOK hT h (by kernel_rfl) trivial fun a w h => then_normal ?_
  refine at_test (decide (((i : Nat) : Int) < ((List.length x0 : Nat) : Int))) h (by kernel_rfl) (fun h2 => ?_) (fun h2 => ?_)
  ·replace h2 : ((i : Nat) : Int) < ((List.length x0 : Nat) : Int) := of_decide_eq_true h2
   have hat := ctL_at_le (c := Sh.sz s223) (xs := x0) (z := (0, [])) (i := i) (by omega)
   have hsu := ctL_take_succ (c := Sh.sz s223) (xs := x0) (z := (0, [])) (i := i) (by omega)
   refine wp_skip (then_normal (wp_seq (wp_block (wp_seq ?_))))
   refine at_regq [] { ts := [0, 1, 4, 5], os := [] } [(0 : Int) ≤ ((i : Nat) : Int) ∧ ((i : Nat) : Int) < ((List.length x0 : Nat) : Int), (pSz s223) (x0.getD i (0, [])) (x1 - ((List.length x0 : Nat) : Int) - ((ctL (Sh.sz s223) (List.take i x0) : Nat) : Int))] gamOK hT h (by kernel_rfl) ⟨(by refine ⟨?_, ?_⟩ <;> (first | omega | (simp only [lsA]; omega) | (simp <;> omega))), (by (show (0 : Int) ≤ _ ∧ _ ≤ (9223372036854775807 : Int); constructor <;> omega)), trivial⟩ fun a w h => then_normal (wp_seq ?_)
   refine at_regq [] { ts := [0, 1, 4, 5, 25], os := [] } [] gamOK hT h (by kernel_rfl) trivial fun a w h => then_normal ?_
   refine at_test (decide (((szD s223) (x0.getD i (0, [])) (x1 - ((List.length x0 : Nat) : Int) - ((ctL (Sh.sz s223) (List.take i x0) : Nat) : Int))) < 0)) h (by kernel_rfl) (fun h3 => ?_) (fun h3 => ?_)
   ·replace h3 : ((szD s223) (x0.getD i (0, [])) (x1 - ((List.length x0 : Nat) : Int) - ((ctL (Sh.sz s223) (List.take i x0) : Nat) : Int))) < 0 := of_decide_eq_true h3
    have hvh3 := szD_neg h3 (by omega)
    refine wp_seq ?_
    refine at_regq [] { ts := [0, 1, 4, 5], os := [] } [] gamOK hT h (by kernel_rfl) trivial fun a w h => then_normal (wp_ret (in_ret (then_ret (then_ret (in_ret (then_ret ?_))))))
    exact at_return (S := S_laws_szGenerationS) (x := (x0, x1, ())) ((-1), ()) [] h (by kernel_rfl) trivial (congrArg (fun z => (z, ())) (show ((-1)) = (szD s24) x0 x1 from by exact (szD_no (by omega)).symm))
   ·replace h3 : ¬ (((szD s223) (x0.getD i (0, [])) (x1 - ((List.length x0 : Nat) : Int) - ((ctL (Sh.sz s223) (List.take i x0) : Nat) : Int))) < 0) := of_decide_eq_false h3
    have hvh3 := szD_val h3 (by omega)
    refine wp_skip (in_normal (then_normal ?_))
    refine at_regq [{}, { nw := true }] { ts := [0, 1, 4, 5], os := [] } [I64 (((i : Nat) : Int) + 1)] gamOK hT h (by kernel_rfl) ⟨⟨by first | omega | (simp only [lsA]; omega) | (simp <;> omega), by first | omega | (simp only [lsA]; omega) | (simp <;> omega)⟩, trivial⟩ fun a w h => ?_
    replace h := at_out (σ' := ⟨[(0, aF s223 x0), (1, aI ((szD s223) (x0.getD i (0, [])) (x1 - ((List.length x0 : Nat) : Int) - ((ctL (Sh.sz s223) (List.take i x0) : Nat) : Int)))), (4, aI 0), (5, aI (((i : Nat) : Int) + 1))], []⟩) { ts := [0, 1, 4, 5], os := [] } h (by kernel_rfl)
    exact ⟨i + 1, at_eq h (st_congr2 (fun (d0 : Int) (d1 : Int) => (⟨[(0, aF s223 x0), (1, aI d0), (4, aI 0), (5, aI d1)], []⟩ : St)) (show (((szD s223) (x0.getD i (0, [])) (x1 - ((List.length x0 : Nat) : Int) - ((ctL (Sh.sz s223) (List.take i x0) : Nat) : Int))) : Int) = (x1 - ((List.length x0 : Nat) : Int) - ((ctL (Sh.sz s223) (List.take (i + 1) x0) : Nat) : Int)) from by first | with_reducible rfl | (omega) | rfl) (show (((i : Nat) : Int) + 1 : Int) = (((i + 1) : Nat) : Int) from by first | with_reducible rfl | (omega) | rfl)), (by constructor <;> omega), (by omega)⟩
  ·replace h2 : ¬ (((i : Nat) : Int) < ((List.length x0 : Nat) : Int)) := of_decide_eq_false h2
   refine wp_exit (then_exit (then_exit (in_hit (then_normal (wp_seq ?_)))))
   refine at_regq [] { ts := [4], os := [] } [] gamOK hT h (by kernel_rfl) trivial fun a w h => then_normal (wp_ret ?_)
   exact at_return (S := S_laws_szGenerationS) (x := (x0, x1, ())) ((x1 - ((List.length x0 : Nat) : Int) - ((ctL (Sh.sz s223) (List.take i x0) : Nat) : Int)), ()) [] h (by kernel_rfl) trivial (congrArg (fun z => (z, ())) (show ((x1 - ((List.length x0 : Nat) : Int) - ((ctL (Sh.sz s223) (List.take i x0) : Nat) : Int))) = (szD s24) x0 x1 from by (have hta : ctL (Sh.sz s223) (List.take i x0) = ctL (Sh.sz s223) x0 := congrArg (ctL (Sh.sz s223)) (take_all (by omega)); exact ((szD_ok (by omega)).trans (by omega)).symm)))

def S_laws_szRecoder : Sum := { fid := 63, dom := [s124, (.int 3)], cod := [(.int 3)], dp := true, fz := false, pre := fun x => (pSz s124) x.1 x.2.1, g := fun x => (((szD s124) x.1 x.2.1), ()) }
def S_laws_szRecoder_tab : List (Nat × Sum) := [(149, S_laws_szCodedPacketS)]
theorem S_laws_szRecoder_ok : FnOK Try.prog 63 S_laws_szRecoder := by
 refine at_enter 12 (fun x => ⟨[(0, aG [cI x.1.1, cI x.1.2.1, cI x.1.2.2.1, .ro s44 x.1.2.2.2.1, cI x.1.2.2.2.2]), (1, aI x.2.1)], []⟩) Try.func63 rfl (by kernel_rfl) (fun x => rfl) ?_
 rintro w0 Z0 ⟨x0, x1, u⟩ a w
 revert x0 x1
 intro (x0 : T124) (x1 : Int) hpre hlens h
 replace h : At w0 Z0 [] 12 ⟨[(0, aG [cI x0.1, cI x0.2.1, cI x0.2.2.1, .ro s44 x0.2.2.2.1, cI x0.2.2.2.2]), (1, aI x1)], []⟩ a w := h
 replace hpre : (pSz s124) x0 x1 := hpre
 have hl1 : List.length x0.2.2.2.1 ≤ 9223372036854775807 := hlens.1.2.2.2.1.1
 have hT : TabOK Try.prog S_laws_szRecoder_tab := (.cons S_laws_szCodedPacketS_ok .nil)
 have hp : 0 ≤ x1 ∧ x1 ≤ 9223372036854775807 := hpre
 have hsz : Sh.sz s124 x0 = (0 + (0 + (0 + ((Sh.sz s122 x0.2.2.2.1) + 0)))) := rfl
 refine wp_seq ?_
 refine at_regq [{ ids := [1] }] { ts := [1, 2, 4], os := [1] } [] gamOK hT h (by kernel_rfl) trivial fun a w h => then_normal (wp_seq ?_)
 refine at_regq [] { ts := [1, 4], os := [] } [(pSz s122) x0.2.2.2.1 x1] gamOK hT h (by kernel_rfl) ⟨(by (show (0 : Int) ≤ _ ∧ _ ≤ (9223372036854775807 : Int); constructor <;> omega)), trivial⟩ fun a w h => then_normal (wp_seq (wp_seq ?_))
 refine at_regq [] { ts := [1, 4, 10], os := [] } [] gamOK hT h (by kernel_rfl) trivial fun a w h => then_normal ?_
 refine at_test (decide (((szD s122) x0.2.2.2.1 x1) < 0)) h (by kernel_rfl) (fun h1 => ?_) (fun h1 => ?_)
 ·replace h1 : ((szD s122) x0.2.2.2.1 x1) < 0 := of_decide_eq_true h1
  have hvh1 := szD_neg h1 (by omega)
  refine wp_seq ?_
  refine at_regq [] { ts := [1, 4], os := [] } [] gamOK hT h (by kernel_rfl) trivial fun a w h => then_normal (wp_ret (then_ret ?_))
  exact at_return (S := S_laws_szRecoder) (x := (x0, x1, ())) ((-1), ()) [] h (by kernel_rfl) trivial (congrArg (fun z => (z, ())) (show ((-1)) = (szD s124) x0 x1 from by (first | exact (szD_no (by omega)).symm | exact ((szD_ok (by omega)).trans (by omega)).symm)))
 ·replace h1 : ¬ (((szD s122) x0.2.2.2.1 x1) < 0) := of_decide_eq_false h1
  have hvh1 := szD_val h1 (by omega)
  refine wp_skip (then_normal (wp_seq ?_))
  refine at_regq [] { ts := [4], os := [] } [] gamOK hT h (by kernel_rfl) trivial fun a w h => then_normal (wp_ret ?_)
  exact at_return (S := S_laws_szRecoder) (x := (x0, x1, ())) (((szD s122) x0.2.2.2.1 x1), ()) [] h (by kernel_rfl) trivial (congrArg (fun z => (z, ())) (show (((szD s122) x0.2.2.2.1 x1)) = (szD s124) x0 x1 from by (first | exact (szD_no (by omega)).symm | exact ((szD_ok (by omega)).trans (by omega)).symm)))

def S_laws_szRecoderS : Sum := { fid := 109, dom := [s78, (.int 3)], cod := [(.int 3)], dp := true, fz := false, pre := fun x => (pSz s78) x.1 x.2.1, g := fun x => (((szD s78) x.1 x.2.1), ()) }
def S_laws_szRecoderS_tab : List (Nat × Sum) := [(63, S_laws_szRecoder)]
theorem S_laws_szRecoderS_ok : FnOK Try.prog 109 S_laws_szRecoderS := by
 refine at_enter 27 (fun x => ⟨[(0, aF s124 x.1), (1, aI x.2.1)], []⟩) Try.func109 rfl (by kernel_rfl) (fun x => rfl) ?_
 rintro w0 Z0 ⟨x0, x1, u⟩ a w
 revert x0 x1
 intro (x0 : (List T124)) (x1 : Int) hpre hlens h
 replace h : At w0 Z0 [] 27 ⟨[(0, aF s124 x0), (1, aI x1)], []⟩ a w := h
 replace hpre : (pSz s78) x0 x1 := hpre
 have hl1 : List.length x0 ≤ 9223372036854775807 := hlens.1.1
 have hT : TabOK Try.prog S_laws_szRecoderS_tab := (.cons S_laws_szRecoder_ok .nil)
 have hp : 0 ≤ x1 ∧ x1 ≤ 9223372036854775807 := hpre
 have hsz : Sh.sz s78 x0 = List.length x0 + ctL (Sh.sz s124) x0 := rfl
 refine wp_seq ?_
 refine at_regq [] { ts := [0, 1, 4], os := [] } [] gamOK hT h (by kernel_rfl) trivial fun a w h => then_normal (wp_seq ?_)
 refine at_regq [{}, {}, {}, { nw := true }] { ts := [0, 1, 4], os := [] } [I64 (x1 - ((List.length x0 : Nat) : Int))] gamOK hT h (by kernel_rfl) ⟨⟨by first | omega | (simp only [lsA]; omega) | (simp <;> omega), by first | omega | (simp only [lsA]; omega) | (simp <;> omega)⟩, trivial⟩ fun a w h => then_normal (wp_seq (wp_seq ?_))
 refine at_regq [] { ts := [0, 1, 4, 11], os := [] } [] gamOK hT h (by kernel_rfl) trivial fun a w h => then_normal ?_
 refine at_test (decide (x1 - ((List.length x0 : Nat) : Int) < 0)) h (by kernel_rfl) (fun h1 => ?_) (fun h1 => ?_)
 ·replace h1 : x1 - ((List.length x0 : Nat) : Int) < 0 := of_decide_eq_true h1
  refine wp_seq ?_
  refine at_regq [] { ts := [0, 1, 4], os := [] } [] gamOK hT h (by kernel_rfl) trivial fun a w h => then_normal (wp_ret (then_ret ?_))
  exact at_return (S := S_laws_szRecoderS) (x := (x0, x1, ())) ((-1), ()) [] h (by kernel_rfl) trivial (congrArg (fun z => (z, ())) (show ((-1)) = (szD s78) x0 x1 from by exact (szD_no (by omega)).symm))
 ·replace h1 : ¬ (x1 - ((List.length x0 : Nat) : Int) < 0) := of_decide_eq_false h1
  refine wp_skip (then_normal (wp_seq (wp_seq ?_)))
  refine at_regq [] { ts := [0, 1, 4, 5], os := [] } [] gamOK hT h (by kernel_rfl) trivial fun a w h => then_normal (wp_block ?_)
  replace h := at_out (σ' := ⟨[(0, aF s124 x0), (1, aI (x1 - ((List.length x0 : Nat) : Int))), (4, aI 0), (5, aI 0)], []⟩) { ts := [0, 1, 4, 5], os := [] } h (by kernel_rfl)
  refine at_loop (fun i : Nat => (⟨[(0, aF s124 x0), (1, aI (x1 - ((List.length x0 : Nat) : Int) - ((ctL (Sh.sz s124) (List.take i x0) : Nat) : Int))), (4, aI 0), (5, aI ((i : Nat) : Int))], []⟩ : St)) (fun i => (i ≤ List.length x0 ∧ ((List.length x0 : Nat) : Int) + ((ctL (Sh.sz s124) (List.take i x0) : Nat) : Int) ≤ x1)) (fun i => List.length x0 - i) (0) h (st_congr2 (fun (d0 : Int) (d1 : Int) => (⟨[(0, aF s124 x0), (1, aI d0), (4, aI 0), (5, aI d1)], []⟩ : St)) (show (x1 - ((List.length x0 : Nat) : Int) : Int) = (x1 - ((List.length x0 : Nat) : Int) - ((ctL (Sh.sz s124) (List.take (0) x0) : Nat) : Int)) from by first | with_reducible rfl | (simp [ctL]) | rfl) (show (0 : Int) = (((0) : Nat) : Int) from by first | with_reducible rfl | (simp [ctL]) | rfl)) (by simp [ctL]; omega) ?_
  intro i a w hok0 h
  refine wp_seq (wp_seq ?_)
  refine at_regq [] { ts := [0, 1, 4, 5, 15], os := [] } [] gamOK hT h (by kernel_rfl) trivial fun a w h => then_normal ?_
  refine at_test (decide (((i : Nat) : Int) < ((List.length x0 : Nat) : Int))) h (by kernel_rfl) (fun h2 => ?_) (fun h2 => ?_)
  ·replace h2 : ((i : Nat) : Int) < ((List.length x0 : Nat) : Int) := of_decide_eq_true h2
   have hat := ctL_at_le (c := Sh.sz s124) (xs := x0) (z := (0, (0, (0, ([], 0))))) (i := i) (by omega)
   have hsu := ctL_take_succ (c := Sh.sz s124) (xs := x0) (z := (0, (0, (0, ([], 0))))) (i := i) (by omega)
   refine wp_skip (then_normal (wp_seq (wp_block (wp_seq ?_))))
   refine at_regq [] { ts := [0, 1, 4, 5], os := [] } [(0 : Int) ≤ ((i : Nat) : Int) ∧ ((i : Nat) : Int) < ((List.length x0 : Nat) : Int), (pSz s124) (x0.getD i (0, (0, (0, ([], 0))))) (x1 - ((List.length x0 : Nat) : Int) - ((ctL (Sh.sz s124) (List.take i x0) : Nat) : Int))] gamOK hT h (by kernel_rfl) ⟨(by refine ⟨?_, ?_⟩ <;> (first | omega | (simp only [lsA]; omega) | (simp <;> omega))), (by (show (0 : Int) ≤ _ ∧ _ ≤ (9223372036854775807 : Int); constructor <;> omega)), trivial⟩ fun a w h => then_normal (wp_seq ?_)
   refine at_regq [] { ts := [0, 1, 4, 5, 25], os := [] } [] gamOK hT h (by kernel_rfl) trivial fun a w h => then_normal ?_
   refine at_test (decide (((szD s124) (x0.getD i (0, (0, (0, ([], 0))))) (x1 - ((List.length x0 : Nat) : Int) - ((ctL (Sh.sz s124) (List.take i x0) : Nat) : Int))) < 0)) h (by kernel_rfl) (fun h3 => ?_) (fun h3 => ?_)
   ·replace h3 : ((szD s124) (x0.getD i (0, (0, (0, ([], 0))))) (x1 - ((List.length x0 : Nat) : Int) - ((ctL (Sh.sz s124) (List.take i x0) : Nat) : Int))) < 0 := of_decide_eq_true h3
    have hvh3 := szD_neg h3 (by omega)
    refine wp_seq ?_
    refine at_regq [] { ts := [0, 1, 4, 5], os := [] } [] gamOK hT h (by kernel_rfl) trivial fun a w h => then_normal (wp_ret (in_ret (then_ret (then_ret (in_ret (then_ret ?_))))))
    exact at_return (S := S_laws_szRecoderS) (x := (x0, x1, ())) ((-1), ()) [] h (by kernel_rfl) trivial (congrArg (fun z => (z, ())) (show ((-1)) = (szD s78) x0 x1 from by exact (szD_no (by omega)).symm))
   ·replace h3 : ¬ (((szD s124) (x0.getD i (0, (0, (0, ([], 0))))) (x1 - ((List.length x0 : Nat) : Int) - ((ctL (Sh.sz s124) (List.take i x0) : Nat) : Int))) < 0) := of_decide_eq_false h3
    have hvh3 := szD_val h3 (by omega)
    refine wp_skip (in_normal (then_normal ?_))
    refine at_regq [{}, { nw := true }] { ts := [0, 1, 4, 5], os := [] } [I64 (((i : Nat) : Int) + 1)] gamOK hT h (by kernel_rfl) ⟨⟨by first | omega | (simp only [lsA]; omega) | (simp <;> omega), by first | omega | (simp only [lsA]; omega) | (simp <;> omega)⟩, trivial⟩ fun a w h => ?_
    replace h := at_out (σ' := ⟨[(0, aF s124 x0), (1, aI ((szD s124) (x0.getD i (0, (0, (0, ([], 0))))) (x1 - ((List.length x0 : Nat) : Int) - ((ctL (Sh.sz s124) (List.take i x0) : Nat) : Int)))), (4, aI 0), (5, aI (((i : Nat) : Int) + 1))], []⟩) { ts := [0, 1, 4, 5], os := [] } h (by kernel_rfl)
    exact ⟨i + 1, at_eq h (st_congr2 (fun (d0 : Int) (d1 : Int) => (⟨[(0, aF s124 x0), (1, aI d0), (4, aI 0), (5, aI d1)], []⟩ : St)) (show (((szD s124) (x0.getD i (0, (0, (0, ([], 0))))) (x1 - ((List.length x0 : Nat) : Int) - ((ctL (Sh.sz s124) (List.take i x0) : Nat) : Int))) : Int) = (x1 - ((List.length x0 : Nat) : Int) - ((ctL (Sh.sz s124) (List.take (i + 1) x0) : Nat) : Int)) from by first | with_reducible rfl | (omega) | rfl) (show (((i : Nat) : Int) + 1 : Int) = (((i + 1) : Nat) : Int) from by first | with_reducible rfl | (omega) | rfl)), (by constructor <;> omega), (by omega)⟩
  ·replace h2 : ¬ (((i : Nat) : Int) < ((List.length x0 : Nat) : Int)) := of_decide_eq_false h2
   refine wp_exit (then_exit (then_exit (in_hit (then_normal (wp_seq ?_)))))
   refine at_regq [] { ts := [4], os := [] } [] gamOK hT h (by kernel_rfl) trivial fun a w h => then_normal (wp_ret ?_)
   exact at_return (S := S_laws_szRecoderS) (x := (x0, x1, ())) ((x1 - ((List.length x0 : Nat) : Int) - ((ctL (Sh.sz s124) (List.take i x0) : Nat) : Int)), ()) [] h (by kernel_rfl) trivial (congrArg (fun z => (z, ())) (show ((x1 - ((List.length x0 : Nat) : Int) - ((ctL (Sh.sz s124) (List.take i x0) : Nat) : Int))) = (szD s78) x0 x1 from by (have hta : ctL (Sh.sz s124) (List.take i x0) = ctL (Sh.sz s124) x0 := congrArg (ctL (Sh.sz s124)) (take_all (by omega)); exact ((szD_ok (by omega)).trans (by omega)).symm)))

def S_laws_szSource : Sum := { fid := 38, dom := [s83, (.int 3)], cod := [(.int 3)], dp := true, fz := false, pre := fun x => (pSz s83) x.1 x.2.1, g := fun x => (((szD s83) x.1 x.2.1), ()) }
def S_laws_szSource_tab : List (Nat × Sum) := [(82, S_laws_szGenerationS), (109, S_laws_szRecoderS), (110, S_laws_szFeedbackTable)]
theorem S_laws_szSource_ok : FnOK Try.prog 38 S_laws_szSource := by
 refine at_enter 24 (fun x => ⟨[(0, aG [.ro s223 x.1.1, cI x.1.2.1.1, cI x.1.2.1.2.1, cI x.1.2.1.2.2.1, cI x.1.2.1.2.2.2, .ro s124 x.1.2.2.1, .ro s285 x.1.2.2.2.1, cI x.1.2.2.2.2]), (1, aI x.2.1)], []⟩) Try.func38 rfl (by kernel_rfl) (fun x => rfl) ?_
 rintro w0 Z0 ⟨x0, x1, u⟩ a w
 revert x0 x1
 intro (x0 : T83) (x1 : Int) hpre hlens h
 replace h : At w0 Z0 [] 24 ⟨[(0, aG [.ro s223 x0.1, cI x0.2.1.1, cI x0.2.1.2.1, cI x0.2.1.2.2.1, cI x0.2.1.2.2.2, .ro s124 x0.2.2.1, .ro s285 x0.2.2.2.1, cI x0.2.2.2.2]), (1, aI x1)], []⟩ a w := h
 replace hpre : (pSz s83) x0 x1 := hpre
 have hl1 : List.length x0.1 ≤ 9223372036854775807 := hlens.1.1.1
 have hl2 : List.length x0.2.2.1 ≤ 9223372036854775807 := hlens.1.2.2.1.1
 have hl3 : List.length x0.2.2.2.1 ≤ 9223372036854775807 := hlens.1.2.2.2.1.1
 have hT : TabOK Try.prog S_laws_szSource_tab := (.cons S_laws_szGenerationS_ok (.cons S_laws_szRecoderS_ok (.cons S_laws_szFeedbackTable_ok .nil)))
 have hp : 0 ≤ x1 ∧ x1 ≤ 9223372036854775807 := hpre
 have hsz : Sh.sz s83 x0 = ((Sh.sz s24 x0.1) + (0 + ((Sh.sz s78 x0.2.2.1) + ((Sh.sz s81 x0.2.2.2.1) + 0)))) := rfl
 refine wp_seq ?_
 refine at_regq [{ ids := [1] }] { ts := [1, 2, 4], os := [1] } [] gamOK hT h (by kernel_rfl) trivial fun a w h => then_normal (wp_seq ?_)
 refine at_regq [] { ts := [1, 2, 4], os := [1] } [(pSz s24) x0.1 x1] gamOK hT h (by kernel_rfl) ⟨(by (show (0 : Int) ≤ _ ∧ _ ≤ (9223372036854775807 : Int); constructor <;> omega)), trivial⟩ fun a w h => then_normal (wp_seq (wp_seq ?_))
 refine at_regq [] { ts := [1, 2, 4, 10], os := [1] } [] gamOK hT h (by kernel_rfl) trivial fun a w h => then_normal ?_
 refine at_test (decide (((szD s24) x0.1 x1) < 0)) h (by kernel_rfl) (fun h1 => ?_) (fun h1 => ?_)
 ·replace h1 : ((szD s24) x0.1 x1) < 0 := of_decide_eq_true h1
  have hvh1 := szD_neg h1 (by omega)
  refine wp_seq ?_
  refine at_regq [] { ts := [1, 2, 4], os := [1] } [] gamOK hT h (by kernel_rfl) trivial fun a w h => then_normal (wp_ret (then_ret ?_))
  exact at_return (S := S_laws_szSource) (x := (x0, x1, ())) ((-1), ()) [] h (by kernel_rfl) trivial (congrArg (fun z => (z, ())) (show ((-1)) = (szD s83) x0 x1 from by (first | exact (szD_no (by omega)).symm | exact ((szD_ok (by omega)).trans (by omega)).symm)))
 ·replace h1 : ¬ (((szD s24) x0.1 x1) < 0) := of_decide_eq_false h1
  have hvh1 := szD_val h1 (by omega)
  refine wp_skip (then_normal (wp_seq ?_))
  refine at_regq [] { ts := [1, 2, 4], os := [1] } [(pSz s78) x0.2.2.1 ((szD s24) x0.1 x1)] gamOK hT h (by kernel_rfl) ⟨(by (show (0 : Int) ≤ _ ∧ _ ≤ (9223372036854775807 : Int); constructor <;> omega)), trivial⟩ fun a w h => then_normal (wp_seq (wp_seq ?_))
  refine at_regq [] { ts := [1, 2, 4, 16], os := [1] } [] gamOK hT h (by kernel_rfl) trivial fun a w h => then_normal ?_
  refine at_test (decide (((szD s78) x0.2.2.1 ((szD s24) x0.1 x1)) < 0)) h (by kernel_rfl) (fun h2 => ?_) (fun h2 => ?_)
  ·replace h2 : ((szD s78) x0.2.2.1 ((szD s24) x0.1 x1)) < 0 := of_decide_eq_true h2
   have hvh2 := szD_neg h2 (by omega)
   refine wp_seq ?_
   refine at_regq [] { ts := [1, 2, 4], os := [1] } [] gamOK hT h (by kernel_rfl) trivial fun a w h => then_normal (wp_ret (then_ret ?_))
   exact at_return (S := S_laws_szSource) (x := (x0, x1, ())) ((-1), ()) [] h (by kernel_rfl) trivial (congrArg (fun z => (z, ())) (show ((-1)) = (szD s83) x0 x1 from by (first | exact (szD_no (by omega)).symm | exact ((szD_ok (by omega)).trans (by omega)).symm)))
  ·replace h2 : ¬ (((szD s78) x0.2.2.1 ((szD s24) x0.1 x1)) < 0) := of_decide_eq_false h2
   have hvh2 := szD_val h2 (by omega)
   refine wp_skip (then_normal (wp_seq ?_))
   refine at_regq [] { ts := [1, 4], os := [] } [(pSz s81) x0.2.2.2.1 ((szD s78) x0.2.2.1 ((szD s24) x0.1 x1))] gamOK hT h (by kernel_rfl) ⟨(by (show (0 : Int) ≤ _ ∧ _ ≤ (9223372036854775807 : Int); constructor <;> omega)), trivial⟩ fun a w h => then_normal (wp_seq (wp_seq ?_))
   refine at_regq [] { ts := [1, 4, 22], os := [] } [] gamOK hT h (by kernel_rfl) trivial fun a w h => then_normal ?_
   refine at_test (decide (((szD s81) x0.2.2.2.1 ((szD s78) x0.2.2.1 ((szD s24) x0.1 x1))) < 0)) h (by kernel_rfl) (fun h3 => ?_) (fun h3 => ?_)
   ·replace h3 : ((szD s81) x0.2.2.2.1 ((szD s78) x0.2.2.1 ((szD s24) x0.1 x1))) < 0 := of_decide_eq_true h3
    have hvh3 := szD_neg h3 (by omega)
    refine wp_seq ?_
    refine at_regq [] { ts := [1, 4], os := [] } [] gamOK hT h (by kernel_rfl) trivial fun a w h => then_normal (wp_ret (then_ret ?_))
    exact at_return (S := S_laws_szSource) (x := (x0, x1, ())) ((-1), ()) [] h (by kernel_rfl) trivial (congrArg (fun z => (z, ())) (show ((-1)) = (szD s83) x0 x1 from by (first | exact (szD_no (by omega)).symm | exact ((szD_ok (by omega)).trans (by omega)).symm)))
   ·replace h3 : ¬ (((szD s81) x0.2.2.2.1 ((szD s78) x0.2.2.1 ((szD s24) x0.1 x1))) < 0) := of_decide_eq_false h3
    have hvh3 := szD_val h3 (by omega)
    refine wp_skip (then_normal (wp_seq ?_))
    refine at_regq [] { ts := [4], os := [] } [] gamOK hT h (by kernel_rfl) trivial fun a w h => then_normal (wp_ret ?_)
    exact at_return (S := S_laws_szSource) (x := (x0, x1, ())) (((szD s81) x0.2.2.2.1 ((szD s78) x0.2.2.1 ((szD s24) x0.1 x1))), ()) [] h (by kernel_rfl) trivial (congrArg (fun z => (z, ())) (show (((szD s81) x0.2.2.2.1 ((szD s78) x0.2.2.1 ((szD s24) x0.1 x1)))) = (szD s83) x0 x1 from by (first | exact (szD_no (by omega)).symm | exact ((szD_ok (by omega)).trans (by omega)).symm)))

def S_laws_toIntS : Sum := { fid := 84, dom := [s22], cod := [s22], dp := true, fz := false, pre := fun x => (pTo s22) x.1, g := fun x => (((idD s22) x.1), ()) }
def S_laws_toIntS_tab : List (Nat × Sum) := []
theorem S_laws_toIntS_ok : FnOK Try.prog 84 S_laws_toIntS := by
 refine at_enter 22 (fun x => ⟨[(0, aF (.int 3) x.1)], []⟩) Try.func84 rfl (by kernel_rfl) (fun x => rfl) ?_
 rintro w0 Z0 ⟨x0, u⟩ a w
 revert x0
 intro (x0 : (List Int)) hpre hlens h
 replace h : At w0 Z0 [] 22 ⟨[(0, aF (.int 3) x0)], []⟩ a w := h
 replace hpre : (pTo s22) x0 := hpre
 have hl1 : List.length x0 ≤ 9223372036854775807 := hlens.1.1
 have hT : TabOK Try.prog S_laws_toIntS_tab := .nil
 have hp : Sh.sz s22 x0 ≤ 1048576 := hpre
 have hsz : Sh.sz s22 x0 = List.length x0 + ctL (Sh.sz (.int 3)) x0 := rfl
 refine wp_seq ?_
 refine at_regq [] { ts := [0, 2], os := [] } [] gamOK hT h (by kernel_rfl) trivial fun a w h => then_normal (wp_seq ?_)
 refine at_regq [{}, {}, { ids := [1] }] { ts := [0, 2, 3], os := [1] } [(0 : Int) ≤ ((List.length x0 : Nat) : Int) ∧ ((List.length x0 : Nat) : Int) = ((List.length x0 : Nat) : Int) ∧ ((List.length x0 : Nat) : Int) * (8 : Nat) ≤ (140737488355328 : Int)] gamOK hT h (by kernel_rfl) ⟨(by refine ⟨?_, ?_, ?_⟩ <;> ((have hA0 := mul_f ((List.length x0 : Nat) : Int) (8 : Nat); first | omega | (simp only [lsA, copyTo_len hok0]; omega) | (simp <;> omega)))), trivial⟩ fun a w h => then_normal (wp_seq (wp_seq ?_))
 refine at_regq [] { ts := [0, 2, 3, 4], os := [1] } [] gamOK hT h (by kernel_rfl) trivial fun a w h => then_normal (wp_block ?_)
 replace h := at_out (σ' := ⟨[(0, aF (.int 3) x0), (2, .p (.c (cN))), (3, aS 1), (4, aI 0)], [(1, oR (.int 3) (List.replicate (List.length x0) (0 : Int)))]⟩) { ts := [0, 2, 3, 4], os := [1] } h (by kernel_rfl)
 refine at_loop (fun i : Nat => (⟨[(0, aF (.int 3) x0), (2, .p (.c (cN))), (3, aS 1), (4, aI ((i : Nat) : Int))], [(1, oR (.int 3) (copyTo 0 x0 i))]⟩ : St)) (fun i => i ≤ List.length x0) (fun i => List.length x0 - i) (0) h (st_congr2 (fun (d0 : List Int) (d1 : Int) => (⟨[(0, aF (.int 3) x0), (2, .p (.c (cN))), (3, aS 1), (4, aI d1)], [(1, oR (.int 3) d0)]⟩ : St)) (show ((List.replicate (List.length x0) (0 : Int)) : List Int) = (copyTo 0 x0 (0)) from by first | with_reducible rfl | (exact copyTo_zero) | rfl) (show (0 : Int) = (((0) : Nat) : Int) from by first | with_reducible rfl | (exact copyTo_zero) | rfl)) (by first | omega | simp | (refine ⟨?_, ?_⟩ <;> first | omega | simp)) ?_
 intro i a w hok0 h
 refine wp_seq (wp_seq ?_)
 refine at_regq [] { ts := [0, 2, 3, 4, 11], os := [1] } [] gamOK hT h (by kernel_rfl) trivial fun a w h => then_normal ?_
 refine at_test (decide (((i : Nat) : Int) < ((List.length x0 : Nat) : Int))) h (by kernel_rfl) (fun h1 => ?_) (fun h1 => ?_)
 ·replace h1 : ((i : Nat) : Int) < ((List.length x0 : Nat) : Int) := of_decide_eq_true h1
  have hat := ctL_at_le (c := Sh.sz (.int 3)) (xs := x0) (z := 0) (i := i) (by omega)
  refine wp_skip (then_normal (wp_seq (wp_block ?_)))
  refine at_regq [] { ts := [0, 2, 3, 4], os := [1] } [(0 : Int) ≤ ((i : Nat) : Int) ∧ ((i : Nat) : Int) < ((List.length x0 : Nat) : Int), (0 : Int) ≤ ((i : Nat) : Int) ∧ ((i : Nat) : Int) < ((List.length (copyTo 0 x0 i) : Nat) : Int), i < List.length (copyTo 0 x0 i)] gamOK hT h (by kernel_rfl) ⟨(by refine ⟨?_, ?_⟩ <;> (first | omega | (simp only [lsA, copyTo_len hok0]; omega) | (simp <;> omega))), (by refine ⟨?_, ?_⟩ <;> (first | omega | (simp only [lsA, copyTo_len hok0]; omega) | (simp <;> omega))), (by first | omega | (simp only [lsA, copyTo_len hok0]; omega) | (simp <;> omega)), trivial⟩ fun a w h => in_normal (then_normal ?_)
  refine at_regq [{}, { nw := true }] { ts := [0, 2, 3, 4], os := [1] } [I64 (((i : Nat) : Int) + 1)] gamOK hT h (by kernel_rfl) ⟨⟨by first | omega | (simp only [lsA, copyTo_len hok0]; omega) | (simp <;> omega), by first | omega | (simp only [lsA, copyTo_len hok0]; omega) | (simp <;> omega)⟩, trivial⟩ fun a w h => ?_
  replace h := at_out (σ' := ⟨[(0, aF (.int 3) x0), (2, .p (.c (cN))), (3, aS 1), (4, aI (((i : Nat) : Int) + 1))], [(1, oR (.int 3) (List.set (copyTo 0 x0 i) i (x0.getD i 0)))]⟩) { ts := [0, 2, 3, 4], os := [1] } h (by kernel_rfl)
  exact ⟨i + 1, at_eq h (st_congr2 (fun (d0 : List Int) (d1 : Int) => (⟨[(0, aF (.int 3) x0), (2, .p (.c (cN))), (3, aS 1), (4, aI d1)], [(1, oR (.int 3) d0)]⟩ : St)) (show ((List.set (copyTo 0 x0 i) i (x0.getD i 0)) : List Int) = (copyTo 0 x0 (i + 1)) from by first | with_reducible rfl | (exact copyTo_set (by omega)) | rfl) (show (((i : Nat) : Int) + 1 : Int) = (((i + 1) : Nat) : Int) from by first | with_reducible rfl | (omega) | rfl)), (by first | omega | (refine ⟨?_, ?_⟩ <;> omega)), (by omega)⟩
 ·replace h1 : ¬ (((i : Nat) : Int) < ((List.length x0 : Nat) : Int)) := of_decide_eq_false h1
  refine wp_exit (then_exit (then_exit (in_hit (then_normal (wp_seq ?_)))))
  refine at_regq [] { ts := [2], os := [1] } [] gamOK hT h (by kernel_rfl) trivial fun a w h => then_normal (wp_ret ?_)
  exact at_return (S := S_laws_toIntS) (x := (x0, ())) ((copyTo 0 x0 i), ()) [] h (by kernel_rfl) trivial (congrArg (fun z => (z, ())) (show ((copyTo 0 x0 i)) = (idD s22) x0 from by (rw [copyTo_all (by omega)]; rfl)))

def S_laws_toIntSS : Sum := { fid := 132, dom := [s97], cod := [s97], dp := true, fz := false, pre := fun x => (pTo s97) x.1, g := fun x => (((idD s97) x.1), ()) }
def S_laws_toIntSS_tab : List (Nat × Sum) := [(84, S_laws_toIntS)]
theorem S_laws_toIntSS_ok : FnOK Try.prog 132 S_laws_toIntSS := by
 refine at_enter 23 (fun x => ⟨[(0, aF s22 x.1)], []⟩) Try.func132 rfl (by kernel_rfl) (fun x => rfl) ?_
 rintro w0 Z0 ⟨x0, u⟩ a w
 revert x0
 intro (x0 : (List (List Int))) hpre hlens h
 replace h : At w0 Z0 [] 23 ⟨[(0, aF s22 x0)], []⟩ a w := h
 replace hpre : (pTo s97) x0 := hpre
 have hl1 : List.length x0 ≤ 9223372036854775807 := hlens.1.1
 have hT : TabOK Try.prog S_laws_toIntSS_tab := (.cons S_laws_toIntS_ok .nil)
 have hp : Sh.sz s97 x0 ≤ 1048576 := hpre
 have hsz : Sh.sz s97 x0 = List.length x0 + ctL (Sh.sz s22) x0 := rfl
 refine wp_seq ?_
 refine at_regq [] { ts := [0, 2], os := [] } [] gamOK hT h (by kernel_rfl) trivial fun a w h => then_normal (wp_seq ?_)
 refine at_regq [{}, {}, { ids := [1] }] { ts := [0, 2, 3], os := [1] } [(0 : Int) ≤ ((List.length x0 : Nat) : Int) ∧ ((List.length x0 : Nat) : Int) = ((List.length x0 : Nat) : Int) ∧ ((List.length x0 : Nat) : Int) * (24 : Nat) ≤ (140737488355328 : Int)] gamOK hT h (by kernel_rfl) ⟨(by refine ⟨?_, ?_, ?_⟩ <;> ((have hA0 := mul_f ((List.length x0 : Nat) : Int) (24 : Nat); first | omega | (simp only [lsA, copyTo_len hok0]; omega) | (simp <;> omega)))), trivial⟩ fun a w h => then_normal (wp_seq (wp_seq ?_))
 refine at_regq [] { ts := [0, 2, 3, 4], os := [1] } [] gamOK hT h (by kernel_rfl) trivial fun a w h => then_normal (wp_block ?_)
 replace h := at_out (σ' := ⟨[(0, aF s22 x0), (2, .p (.c (cN))), (3, aS 1), (4, aI 0)], [(1, oR s22 (List.replicate (List.length x0) ([] : (List Int))))]⟩) { ts := [0, 2, 3, 4], os := [1] } h (by kernel_rfl)
 refine at_loop (fun i : Nat => (⟨[(0, aF s22 x0), (2, .p (.c (cN))), (3, aS 1), (4, aI ((i : Nat) : Int))], [(1, oR s22 (copyTo [] x0 i))]⟩ : St)) (fun i => i ≤ List.length x0) (fun i => List.length x0 - i) (0) h (st_congr2 (fun (d0 : List (List Int)) (d1 : Int) => (⟨[(0, aF s22 x0), (2, .p (.c (cN))), (3, aS 1), (4, aI d1)], [(1, oR s22 d0)]⟩ : St)) (show ((List.replicate (List.length x0) ([] : (List Int))) : List (List Int)) = (copyTo [] x0 (0)) from by first | with_reducible rfl | (exact copyTo_zero) | rfl) (show (0 : Int) = (((0) : Nat) : Int) from by first | with_reducible rfl | (exact copyTo_zero) | rfl)) (by first | omega | simp | (refine ⟨?_, ?_⟩ <;> first | omega | simp)) ?_
 intro i a w hok0 h
 refine wp_seq (wp_seq ?_)
 refine at_regq [] { ts := [0, 2, 3, 4, 11], os := [1] } [] gamOK hT h (by kernel_rfl) trivial fun a w h => then_normal ?_
 refine at_test (decide (((i : Nat) : Int) < ((List.length x0 : Nat) : Int))) h (by kernel_rfl) (fun h1 => ?_) (fun h1 => ?_)
 ·replace h1 : ((i : Nat) : Int) < ((List.length x0 : Nat) : Int) := of_decide_eq_true h1
  have hat := ctL_at_le (c := Sh.sz s22) (xs := x0) (z := []) (i := i) (by omega)
  refine wp_skip (then_normal (wp_seq (wp_block ?_)))
  refine at_regq [{}, {}, {}, {}, {}, {}, { ids := [2] }] { ts := [0, 2, 3, 4], os := [1] } [(0 : Int) ≤ ((i : Nat) : Int) ∧ ((i : Nat) : Int) < ((List.length x0 : Nat) : Int), (pTo s22) (x0.getD i []), (0 : Int) ≤ ((i : Nat) : Int) ∧ ((i : Nat) : Int) < ((List.length (copyTo [] x0 i) : Nat) : Int), i < List.length (copyTo [] x0 i)] gamOK hT h (by kernel_rfl) ⟨(by refine ⟨?_, ?_⟩ <;> (first | omega | (simp only [lsA, copyTo_len hok0]; omega) | (simp <;> omega))), (by (show Sh.sz _ _ ≤ 1048576; omega)), (by refine ⟨?_, ?_⟩ <;> (first | omega | (simp only [lsA, copyTo_len hok0]; omega) | (simp <;> omega))), (by first | omega | (simp only [lsA, copyTo_len hok0]; omega) | (simp <;> omega)), trivial⟩ fun a w h => in_normal (then_normal ?_)
  refine at_regq [{}, { nw := true }] { ts := [0, 2, 3, 4], os := [1] } [I64 (((i : Nat) : Int) + 1)] gamOK hT h (by kernel_rfl) ⟨⟨by first | omega | (simp only [lsA, copyTo_len hok0]; omega) | (simp <;> omega), by first | omega | (simp only [lsA, copyTo_len hok0]; omega) | (simp <;> omega)⟩, trivial⟩ fun a w h => ?_
  replace h := at_out (σ' := ⟨[(0, aF s22 x0), (2, .p (.c (cN))), (3, aS 1), (4, aI (((i : Nat) : Int) + 1))], [(1, oR s22 (List.set (copyTo [] x0 i) i (x0.getD i [])))]⟩) { ts := [0, 2, 3, 4], os := [1] } h (by kernel_rfl)
  exact ⟨i + 1, at_eq h (st_congr2 (fun (d0 : List (List Int)) (d1 : Int) => (⟨[(0, aF s22 x0), (2, .p (.c (cN))), (3, aS 1), (4, aI d1)], [(1, oR s22 d0)]⟩ : St)) (show ((List.set (copyTo [] x0 i) i (x0.getD i [])) : List (List Int)) = (copyTo [] x0 (i + 1)) from by first | with_reducible rfl | (exact copyTo_set (by omega)) | rfl) (show (((i : Nat) : Int) + 1 : Int) = (((i + 1) : Nat) : Int) from by first | with_reducible rfl | (omega) | rfl)), (by first | omega | (refine ⟨?_, ?_⟩ <;> omega)), (by omega)⟩
 ·replace h1 : ¬ (((i : Nat) : Int) < ((List.length x0 : Nat) : Int)) := of_decide_eq_false h1
  refine wp_exit (then_exit (then_exit (in_hit (then_normal (wp_seq ?_)))))
  refine at_regq [] { ts := [2], os := [1] } [] gamOK hT h (by kernel_rfl) trivial fun a w h => then_normal (wp_ret ?_)
  exact at_return (S := S_laws_toIntSS) (x := (x0, ())) ((copyTo [] x0 i), ()) [] h (by kernel_rfl) trivial (congrArg (fun z => (z, ())) (show ((copyTo [] x0 i)) = (idD s97) x0 from by (rw [copyTo_all (by omega)]; rfl)))

def S_laws_toCodedPacket : Sum := { fid := 56, dom := [s44], cod := [s61], dp := true, fz := false, pre := fun x => (pTo s44) x.1, g := fun x => (((idD s44) x.1), ()) }
def S_laws_toCodedPacket_tab : List (Nat × Sum) := [(84, S_laws_toIntS)]
theorem S_laws_toCodedPacket_ok : FnOK Try.prog 56 S_laws_toCodedPacket := by
 refine at_enter 16 (fun x => ⟨[(0, aG [cI x.1.1, .ro (.int 3) x.1.2.1, .ro (.int 3) x.1.2.2])], []⟩) Try.func56 rfl (by kernel_rfl) (fun x => rfl) ?_
 rintro w0 Z0 ⟨x0, u⟩ a w
 revert x0
 intro (x0 : T44) hpre hlens h
 replace h : At w0 Z0 [] 16 ⟨[(0, aG [cI x0.1, .ro (.int 3) x0.2.1, .ro (.int 3) x0.2.2])], []⟩ a w := h
 replace hpre : (pTo s44) x0 := hpre
 have hl1 : List.length x0.2.1 ≤ 9223372036854775807 := hlens.1.2.1.1
 have hl2 : List.length x0.2.2 ≤ 9223372036854775807 := hlens.1.2.2.1
 have hT : TabOK Try.prog S_laws_toCodedPacket_tab := (.cons S_laws_toIntS_ok .nil)
 have hp : Sh.sz s44 x0 ≤ 1048576 := hpre
 have hsz : Sh.sz s44 x0 = (0 + ((Sh.sz s22 x0.2.1) + (Sh.sz s22 x0.2.2))) := rfl
 refine wp_seq ?_
 refine at_regq [{ ids := [1] }, { ids := [2] }] { ts := [1, 2], os := [1, 2] } [] gamOK hT h (by kernel_rfl) trivial fun a w h => then_normal (wp_seq ?_)
 refine at_regq [{ ids := [3] }] { ts := [1, 2, 3], os := [1, 2, 3] } [] gamOK hT h (by kernel_rfl) trivial fun a w h => then_normal (wp_seq ?_)
 refine at_regq [] { ts := [1, 2, 3], os := [1, 2, 3] } [] gamOK hT h (by kernel_rfl) trivial fun a w h => then_normal (wp_seq ?_)
 refine at_regq [{}, {}, { ids := [4] }] { ts := [1, 2, 3], os := [1, 2, 3, 4] } [(pTo s22) x0.2.1] gamOK hT h (by kernel_rfl) ⟨(by (show Sh.sz _ _ ≤ 1048576; first | omega | (show (0 : Nat) ≤ 1048576; decide))), trivial⟩ fun a w h => then_normal (wp_seq ?_)
 refine at_regq [{}, {}, { ids := [5] }] { ts := [2, 3], os := [2, 3, 4, 5] } [(pTo s22) x0.2.2] gamOK hT h (by kernel_rfl) ⟨(by (show Sh.sz _ _ ≤ 1048576; first | omega | (show (0 : Nat) ≤ 1048576; decide))), trivial⟩ fun a w h => then_normal (wp_seq ?_)
 refine at_regq [] { ts := [2], os := [2, 4, 5] } [] gamOK hT h (by kernel_rfl) trivial fun a w h => then_normal (wp_ret ?_)
 exact at_return (S := S_laws_toCodedPacket) (x := (x0, ())) (x0, ()) [] h (by kernel_rfl) trivial (congrArg (fun z => (z, ())) (show (x0) = (idD s44) x0 from by rfl))

def S_laws_toCodedPacketS : Sum := { fid := 155, dom := [s122], cod := [s126], dp := true, fz := false, pre := fun x => (pTo s122) x.1, g := fun x => (((idD s122) x.1), ()) }
def S_laws_toCodedPacketS_tab : List (Nat × Sum) := [(56, S_laws_toCodedPacket)]
theorem S_laws_toCodedPacketS_ok : FnOK Try.prog 155 S_laws_toCodedPacketS := by
 refine at_enter 23 (fun x => ⟨[(0, aF s44 x.1)], []⟩) Try.func155 rfl (by kernel_rfl) (fun x => rfl) ?_
 rintro w0 Z0 ⟨x0, u⟩ a w
 revert x0
 intro (x0 : (List T44)) hpre hlens h
 replace h : At w0 Z0 [] 23 ⟨[(0, aF s44 x0)], []⟩ a w := h
 replace hpre : (pTo s122) x0 := hpre
 have hl1 : List.length x0 ≤ 9223372036854775807 := hlens.1.1
 have hT : TabOK Try.prog S_laws_toCodedPacketS_tab := (.cons S_laws_toCodedPacket_ok .nil)
 have hp : Sh.sz s122 x0 ≤ 1048576 := hpre
 have hsz : Sh.sz s122 x0 = List.length x0 + ctL (Sh.sz s44) x0 := rfl
 refine wp_seq ?_
 refine at_regq [] { ts := [0, 2], os := [] } [] gamOK hT h (by kernel_rfl) trivial fun a w h => then_normal (wp_seq ?_)
 refine at_regq [{}, {}, { ids := [1] }] { ts := [0, 2, 3], os := [1] } [(0 : Int) ≤ ((List.length x0 : Nat) : Int) ∧ ((List.length x0 : Nat) : Int) = ((List.length x0 : Nat) : Int) ∧ ((List.length x0 : Nat) : Int) * (56 : Nat) ≤ (140737488355328 : Int)] gamOK hT h (by kernel_rfl) ⟨(by refine ⟨?_, ?_, ?_⟩ <;> ((have hA0 := mul_f ((List.length x0 : Nat) : Int) (56 : Nat); first | omega | (simp only [lsA, copyTo_len hok0]; omega) | (simp <;> omega)))), trivial⟩ fun a w h => then_normal (wp_seq (wp_seq ?_))
 refine at_regq [] { ts := [0, 2, 3, 4], os := [1] } [] gamOK hT h (by kernel_rfl) trivial fun a w h => then_normal (wp_block ?_)
 replace h := at_out (σ' := ⟨[(0, aF s44 x0), (2, .p (.c (cN))), (3, aS 1), (4, aI 0)], [(1, oR s61 (List.replicate (List.length x0) ((0, ([], [])) : T61)))]⟩) { ts := [0, 2, 3, 4], os := [1] } h (by kernel_rfl)
 refine at_loop (fun i : Nat => (⟨[(0, aF s44 x0), (2, .p (.c (cN))), (3, aS 1), (4, aI ((i : Nat) : Int))], [(1, oR s61 (copyTo (0, ([], [])) x0 i))]⟩ : St)) (fun i => i ≤ List.length x0) (fun i => List.length x0 - i) (0) h (st_congr2 (fun (d0 : List T61) (d1 : Int) => (⟨[(0, aF s44 x0), (2, .p (.c (cN))), (3, aS 1), (4, aI d1)], [(1, oR s61 d0)]⟩ : St)) (show ((List.replicate (List.length x0) ((0, ([], [])) : T61)) : List T61) = (copyTo (0, ([], [])) x0 (0)) from by first | with_reducible rfl | (exact copyTo_zero) | rfl) (show (0 : Int) = (((0) : Nat) : Int) from by first | with_reducible rfl | (exact copyTo_zero) | rfl)) (by first | omega | simp | (refine ⟨?_, ?_⟩ <;> first | omega | simp)) ?_
 intro i a w hok0 h
 refine wp_seq (wp_seq ?_)
 refine at_regq [] { ts := [0, 2, 3, 4, 11], os := [1] } [] gamOK hT h (by kernel_rfl) trivial fun a w h => then_normal ?_
 refine at_test (decide (((i : Nat) : Int) < ((List.length x0 : Nat) : Int))) h (by kernel_rfl) (fun h1 => ?_) (fun h1 => ?_)
 ·replace h1 : ((i : Nat) : Int) < ((List.length x0 : Nat) : Int) := of_decide_eq_true h1
  have hat := ctL_at_le (c := Sh.sz s44) (xs := x0) (z := (0, ([], []))) (i := i) (by omega)
  refine wp_skip (then_normal (wp_seq (wp_block ?_)))
  refine at_regq [{}, {}, {}, {}, {}, {}, { ids := [2, 3] }] { ts := [0, 2, 3, 4], os := [1] } [(0 : Int) ≤ ((i : Nat) : Int) ∧ ((i : Nat) : Int) < ((List.length x0 : Nat) : Int), (pTo s44) (x0.getD i (0, ([], []))), (0 : Int) ≤ ((i : Nat) : Int) ∧ ((i : Nat) : Int) < ((List.length (copyTo (0, ([], [])) x0 i) : Nat) : Int), i < List.length (copyTo (0, ([], [])) x0 i)] gamOK hT h (by kernel_rfl) ⟨(by refine ⟨?_, ?_⟩ <;> (first | omega | (simp only [lsA, copyTo_len hok0]; omega) | (simp <;> omega))), (by (show Sh.sz _ _ ≤ 1048576; omega)), (by refine ⟨?_, ?_⟩ <;> (first | omega | (simp only [lsA, copyTo_len hok0]; omega) | (simp <;> omega))), (by first | omega | (simp only [lsA, copyTo_len hok0]; omega) | (simp <;> omega)), trivial⟩ fun a w h => in_normal (then_normal ?_)
  refine at_regq [{}, { nw := true }] { ts := [0, 2, 3, 4], os := [1] } [I64 (((i : Nat) : Int) + 1)] gamOK hT h (by kernel_rfl) ⟨⟨by first | omega | (simp only [lsA, copyTo_len hok0]; omega) | (simp <;> omega), by first | omega | (simp only [lsA, copyTo_len hok0]; omega) | (simp <;> omega)⟩, trivial⟩ fun a w h => ?_
  replace h := at_out (σ' := ⟨[(0, aF s44 x0), (2, .p (.c (cN))), (3, aS 1), (4, aI (((i : Nat) : Int) + 1))], [(1, oR s61 (List.set (copyTo (0, ([], [])) x0 i) i (x0.getD i (0, ([], [])))))]⟩) { ts := [0, 2, 3, 4], os := [1] } h (by kernel_rfl)
  exact ⟨i + 1, at_eq h (st_congr2 (fun (d0 : List T61) (d1 : Int) => (⟨[(0, aF s44 x0), (2, .p (.c (cN))), (3, aS 1), (4, aI d1)], [(1, oR s61 d0)]⟩ : St)) (show ((List.set (copyTo (0, ([], [])) x0 i) i (x0.getD i (0, ([], [])))) : List T61) = (copyTo (0, ([], [])) x0 (i + 1)) from by first | with_reducible rfl | (exact copyTo_set (by omega)) | rfl) (show (((i : Nat) : Int) + 1 : Int) = (((i + 1) : Nat) : Int) from by first | with_reducible rfl | (omega) | rfl)), (by first | omega | (refine ⟨?_, ?_⟩ <;> omega)), (by omega)⟩
 ·replace h1 : ¬ (((i : Nat) : Int) < ((List.length x0 : Nat) : Int)) := of_decide_eq_false h1
  refine wp_exit (then_exit (then_exit (in_hit (then_normal (wp_seq ?_)))))
  refine at_regq [] { ts := [2], os := [1] } [] gamOK hT h (by kernel_rfl) trivial fun a w h => then_normal (wp_ret ?_)
  exact at_return (S := S_laws_toCodedPacketS) (x := (x0, ())) ((copyTo (0, ([], [])) x0 i), ()) [] h (by kernel_rfl) trivial (congrArg (fun z => (z, ())) (show ((copyTo (0, ([], [])) x0 i)) = (idD s122) x0 from by (rw [copyTo_all (by omega)]; rfl)))

def S_laws_toFeedback : Sum := { fid := 275, dom := [s285], cod := [s247], dp := true, fz := false, pre := fun x => (pTo s285) x.1, g := fun x => (((idD s285) x.1), ()) }
def S_laws_toFeedback_tab : List (Nat × Sum) := []
theorem S_laws_toFeedback_ok : FnOK Try.prog 275 S_laws_toFeedback := by
 refine at_enter 14 (fun x => ⟨[(0, aG [cI x.1.1, cI x.1.2.1, cI x.1.2.2])], []⟩) Try.func275 rfl (by kernel_rfl) (fun x => rfl) ?_
 rintro w0 Z0 ⟨x0, u⟩ a w
 revert x0
 intro (x0 : T285) hpre hlens h
 replace h : At w0 Z0 [] 14 ⟨[(0, aG [cI x0.1, cI x0.2.1, cI x0.2.2])], []⟩ a w := h
 replace hpre : (pTo s285) x0 := hpre
 have hT : TabOK Try.prog S_laws_toFeedback_tab := .nil
 have hp : Sh.sz s285 x0 ≤ 1048576 := hpre
 have hsz : Sh.sz s285 x0 = (0 + (0 + 0)) := rfl
 refine wp_seq ?_
 refine at_regq [{ ids := [1] }, { ids := [2] }] { ts := [1, 2], os := [1, 2] } [] gamOK hT h (by kernel_rfl) trivial fun a w h => then_normal (wp_seq ?_)
 refine at_regq [{ ids := [3] }] { ts := [1, 2, 3], os := [1, 2, 3] } [] gamOK hT h (by kernel_rfl) trivial fun a w h => then_normal (wp_seq ?_)
 refine at_regq [] { ts := [1, 2, 3], os := [1, 2, 3] } [] gamOK hT h (by kernel_rfl) trivial fun a w h => then_normal (wp_seq ?_)
 refine at_regq [] { ts := [1, 2, 3], os := [1, 2, 3] } [] gamOK hT h (by kernel_rfl) trivial fun a w h => then_normal (wp_seq ?_)
 refine at_regq [] { ts := [2, 3], os := [2, 3] } [] gamOK hT h (by kernel_rfl) trivial fun a w h => then_normal (wp_seq ?_)
 refine at_regq [] { ts := [2], os := [2] } [] gamOK hT h (by kernel_rfl) trivial fun a w h => then_normal (wp_ret ?_)
 exact at_return (S := S_laws_toFeedback) (x := (x0, ())) (x0, ()) [] h (by kernel_rfl) trivial (congrArg (fun z => (z, ())) (show (x0) = (idD s285) x0 from by rfl))

def S_laws_toFeedbackS : Sum := { fid := 203, dom := [s79], cod := [s87], dp := true, fz := false, pre := fun x => (pTo s79) x.1, g := fun x => (((idD s79) x.1), ()) }
def S_laws_toFeedbackS_tab : List (Nat × Sum) := [(275, S_laws_toFeedback)]
theorem S_laws_toFeedbackS_ok : FnOK Try.prog 203 S_laws_toFeedbackS := by
 refine at_enter 23 (fun x => ⟨[(0, aF s285 x.1)], []⟩) Try.func203 rfl (by kernel_rfl) (fun x => rfl) ?_
 rintro w0 Z0 ⟨x0, u⟩ a w
 revert x0
 intro (x0 : (List T285)) hpre hlens h
 replace h : At w0 Z0 [] 23 ⟨[(0, aF s285 x0)], []⟩ a w := h
 replace hpre : (pTo s79) x0 := hpre
 have hl1 : List.length x0 ≤ 9223372036854775807 := hlens.1.1
 have hT : TabOK Try.prog S_laws_toFeedbackS_tab := (.cons S_laws_toFeedback_ok .nil)
 have hp : Sh.sz s79 x0 ≤ 1048576 := hpre
 have hsz : Sh.sz s79 x0 = List.length x0 + ctL (Sh.sz s285) x0 := rfl
 refine wp_seq ?_
 refine at_regq [] { ts := [0, 2], os := [] } [] gamOK hT h (by kernel_rfl) trivial fun a w h => then_normal (wp_seq ?_)
 refine at_regq [{}, {}, { ids := [1] }] { ts := [0, 2, 3], os := [1] } [(0 : Int) ≤ ((List.length x0 : Nat) : Int) ∧ ((List.length x0 : Nat) : Int) = ((List.length x0 : Nat) : Int) ∧ ((List.length x0 : Nat) : Int) * (24 : Nat) ≤ (140737488355328 : Int)] gamOK hT h (by kernel_rfl) ⟨(by refine ⟨?_, ?_, ?_⟩ <;> ((have hA0 := mul_f ((List.length x0 : Nat) : Int) (24 : Nat); first | omega | (simp only [lsA, copyTo_len hok0]; omega) | (simp <;> omega)))), trivial⟩ fun a w h => then_normal (wp_seq (wp_seq ?_))
 refine at_regq [] { ts := [0, 2, 3, 4], os := [1] } [] gamOK hT h (by kernel_rfl) trivial fun a w h => then_normal (wp_block ?_)
 replace h := at_out (σ' := ⟨[(0, aF s285 x0), (2, .p (.c (cN))), (3, aS 1), (4, aI 0)], [(1, oR s247 (List.replicate (List.length x0) ((0, (0, 0)) : T247)))]⟩) { ts := [0, 2, 3, 4], os := [1] } h (by kernel_rfl)
 refine at_loop (fun i : Nat => (⟨[(0, aF s285 x0), (2, .p (.c (cN))), (3, aS 1), (4, aI ((i : Nat) : Int))], [(1, oR s247 (copyTo (0, (0, 0)) x0 i))]⟩ : St)) (fun i => i ≤ List.length x0) (fun i => List.length x0 - i) (0) h (st_congr2 (fun (d0 : List T247) (d1 : Int) => (⟨[(0, aF s285 x0), (2, .p (.c (cN))), (3, aS 1), (4, aI d1)], [(1, oR s247 d0)]⟩ : St)) (show ((List.replicate (List.length x0) ((0, (0, 0)) : T247)) : List T247) = (copyTo (0, (0, 0)) x0 (0)) from by first | with_reducible rfl | (exact copyTo_zero) | rfl) (show (0 : Int) = (((0) : Nat) : Int) from by first | with_reducible rfl | (exact copyTo_zero) | rfl)) (by first | omega | simp | (refine ⟨?_, ?_⟩ <;> first | omega | simp)) ?_
 intro i a w hok0 h
 refine wp_seq (wp_seq ?_)
 refine at_regq [] { ts := [0, 2, 3, 4, 11], os := [1] } [] gamOK hT h (by kernel_rfl) trivial fun a w h => then_normal ?_
 refine at_test (decide (((i : Nat) : Int) < ((List.length x0 : Nat) : Int))) h (by kernel_rfl) (fun h1 => ?_) (fun h1 => ?_)
 ·replace h1 : ((i : Nat) : Int) < ((List.length x0 : Nat) : Int) := of_decide_eq_true h1
  have hat := ctL_at_le (c := Sh.sz s285) (xs := x0) (z := (0, (0, 0))) (i := i) (by omega)
  refine wp_skip (then_normal (wp_seq (wp_block ?_)))
  refine at_regq [] { ts := [0, 2, 3, 4], os := [1] } [(0 : Int) ≤ ((i : Nat) : Int) ∧ ((i : Nat) : Int) < ((List.length x0 : Nat) : Int), (pTo s285) (x0.getD i (0, (0, 0))), (0 : Int) ≤ ((i : Nat) : Int) ∧ ((i : Nat) : Int) < ((List.length (copyTo (0, (0, 0)) x0 i) : Nat) : Int), i < List.length (copyTo (0, (0, 0)) x0 i)] gamOK hT h (by kernel_rfl) ⟨(by refine ⟨?_, ?_⟩ <;> (first | omega | (simp only [lsA, copyTo_len hok0]; omega) | (simp <;> omega))), (by (show Sh.sz _ _ ≤ 1048576; omega)), (by refine ⟨?_, ?_⟩ <;> (first | omega | (simp only [lsA, copyTo_len hok0]; omega) | (simp <;> omega))), (by first | omega | (simp only [lsA, copyTo_len hok0]; omega) | (simp <;> omega)), trivial⟩ fun a w h => in_normal (then_normal ?_)
  refine at_regq [{}, { nw := true }] { ts := [0, 2, 3, 4], os := [1] } [I64 (((i : Nat) : Int) + 1)] gamOK hT h (by kernel_rfl) ⟨⟨by first | omega | (simp only [lsA, copyTo_len hok0]; omega) | (simp <;> omega), by first | omega | (simp only [lsA, copyTo_len hok0]; omega) | (simp <;> omega)⟩, trivial⟩ fun a w h => ?_
  replace h := at_out (σ' := ⟨[(0, aF s285 x0), (2, .p (.c (cN))), (3, aS 1), (4, aI (((i : Nat) : Int) + 1))], [(1, oR s247 (List.set (copyTo (0, (0, 0)) x0 i) i (x0.getD i (0, (0, 0)))))]⟩) { ts := [0, 2, 3, 4], os := [1] } h (by kernel_rfl)
  exact ⟨i + 1, at_eq h (st_congr2 (fun (d0 : List T247) (d1 : Int) => (⟨[(0, aF s285 x0), (2, .p (.c (cN))), (3, aS 1), (4, aI d1)], [(1, oR s247 d0)]⟩ : St)) (show ((List.set (copyTo (0, (0, 0)) x0 i) i (x0.getD i (0, (0, 0)))) : List T247) = (copyTo (0, (0, 0)) x0 (i + 1)) from by first | with_reducible rfl | (exact copyTo_set (by omega)) | rfl) (show (((i : Nat) : Int) + 1 : Int) = (((i + 1) : Nat) : Int) from by first | with_reducible rfl | (omega) | rfl)), (by first | omega | (refine ⟨?_, ?_⟩ <;> omega)), (by omega)⟩
 ·replace h1 : ¬ (((i : Nat) : Int) < ((List.length x0 : Nat) : Int)) := of_decide_eq_false h1
  refine wp_exit (then_exit (then_exit (in_hit (then_normal (wp_seq ?_)))))
  refine at_regq [] { ts := [2], os := [1] } [] gamOK hT h (by kernel_rfl) trivial fun a w h => then_normal (wp_ret ?_)
  exact at_return (S := S_laws_toFeedbackS) (x := (x0, ())) ((copyTo (0, (0, 0)) x0 i), ()) [] h (by kernel_rfl) trivial (congrArg (fun z => (z, ())) (show ((copyTo (0, (0, 0)) x0 i)) = (idD s79) x0 from by (rw [copyTo_all (by omega)]; rfl)))

def S_laws_toFeedbackTable : Sum := { fid := 115, dom := [s81], cod := [s89], dp := true, fz := false, pre := fun x => (pTo s81) x.1, g := fun x => (((idD s81) x.1), ()) }
def S_laws_toFeedbackTable_tab : List (Nat × Sum) := [(203, S_laws_toFeedbackS)]
theorem S_laws_toFeedbackTable_ok : FnOK Try.prog 115 S_laws_toFeedbackTable := by
 refine at_enter 9 (fun x => ⟨[(0, aG [.ro s285 x.1])], []⟩) Try.func115 rfl (by kernel_rfl) (fun x => rfl) ?_
 rintro w0 Z0 ⟨x0, u⟩ a w
 revert x0
 intro (x0 : (List T285)) hpre hlens h
 replace h : At w0 Z0 [] 9 ⟨[(0, aG [.ro s285 x0])], []⟩ a w := h
 replace hpre : (pTo s81) x0 := hpre
 have hl1 : List.length x0 ≤ 9223372036854775807 := hlens.1.1
 have hT : TabOK Try.prog S_laws_toFeedbackTable_tab := (.cons S_laws_toFeedbackS_ok .nil)
 have hp : Sh.sz s81 x0 ≤ 1048576 := hpre
 have hsz : Sh.sz s81 x0 = (Sh.sz s79 x0) := rfl
 refine wp_seq ?_
 refine at_regq [{ ids := [1] }, { ids := [2] }] { ts := [1, 2], os := [1, 2] } [] gamOK hT h (by kernel_rfl) trivial fun a w h => then_normal (wp_seq ?_)
 refine at_regq [{ ids := [3] }] { ts := [1, 2, 3], os := [1, 2, 3] } [] gamOK hT h (by kernel_rfl) trivial fun a w h => then_normal (wp_seq ?_)
 refine at_regq [{}, {}, { ids := [4] }] { ts := [2, 3], os := [2, 3, 4] } [(pTo s79) x0] gamOK hT h (by kernel_rfl) ⟨(by (show Sh.sz _ _ ≤ 1048576; first | omega | (show (0 : Nat) ≤ 1048576; decide))), trivial⟩ fun a w h => then_normal (wp_seq ?_)
 refine at_regq [] { ts := [2], os := [2, 4] } [] gamOK hT h (by kernel_rfl) trivial fun a w h => then_normal (wp_ret ?_)
 exact at_return (S := S_laws_toFeedbackTable) (x := (x0, ())) (x0, ()) [] h (by kernel_rfl) trivial (congrArg (fun z => (z, ())) (show (x0) = (idD s81) x0 from by rfl))

def S_laws_toGeneration : Sum := { fid := 182, dom := [s223], cod := [s218], dp := true, fz := false, pre := fun x => (pTo s223) x.1, g := fun x => (((idD s223) x.1), ()) }
def S_laws_toGeneration_tab : List (Nat × Sum) := [(132, S_laws_toIntSS)]
theorem S_laws_toGeneration_ok : FnOK Try.prog 182 S_laws_toGeneration := by
 refine at_enter 12 (fun x => ⟨[(0, aG [cI x.1.1, .ro s22 x.1.2])], []⟩) Try.func182 rfl (by kernel_rfl) (fun x => rfl) ?_
 rintro w0 Z0 ⟨x0, u⟩ a w
 revert x0
 intro (x0 : T223) hpre hlens h
 replace h : At w0 Z0 [] 12 ⟨[(0, aG [cI x0.1, .ro s22 x0.2])], []⟩ a w := h
 replace hpre : (pTo s223) x0 := hpre
 have hl1 : List.length x0.2 ≤ 9223372036854775807 := hlens.1.2.1
 have hT : TabOK Try.prog S_laws_toGeneration_tab := (.cons S_laws_toIntSS_ok .nil)
 have hp : Sh.sz s223 x0 ≤ 1048576 := hpre
 have hsz : Sh.sz s223 x0 = (0 + (Sh.sz s97 x0.2)) := rfl
 refine wp_seq ?_
 refine at_regq [{ ids := [1] }, { ids := [2] }] { ts := [1, 2], os := [1, 2] } [] gamOK hT h (by kernel_rfl) trivial fun a w h => then_normal (wp_seq ?_)
 refine at_regq [{ ids := [3] }] { ts := [1, 2, 3], os := [1, 2, 3] } [] gamOK hT h (by kernel_rfl) trivial fun a w h => then_normal (wp_seq ?_)
 refine at_regq [] { ts := [1, 2, 3], os := [1, 2, 3] } [] gamOK hT h (by kernel_rfl) trivial fun a w h => then_normal (wp_seq ?_)
 refine at_regq [{}, {}, { ids := [4] }] { ts := [2, 3], os := [2, 3, 4] } [(pTo s97) x0.2] gamOK hT h (by kernel_rfl) ⟨(by (show Sh.sz _ _ ≤ 1048576; first | omega | (show (0 : Nat) ≤ 1048576; decide))), trivial⟩ fun a w h => then_normal (wp_seq ?_)
 refine at_regq [] { ts := [2], os := [2, 4] } [] gamOK hT h (by kernel_rfl) trivial fun a w h => then_normal (wp_ret ?_)
 exact at_return (S := S_laws_toGeneration) (x := (x0, ())) (x0, ()) [] h (by kernel_rfl) trivial (congrArg (fun z => (z, ())) (show (x0) = (idD s223) x0 from by rfl))

def S_laws_toGenerationS : Sum := { fid := 86, dom := [s24], cod := [s30], dp := true, fz := false, pre := fun x => (pTo s24) x.1, g := fun x => (((idD s24) x.1), ()) }
def S_laws_toGenerationS_tab : List (Nat × Sum) := [(182, S_laws_toGeneration)]
theorem S_laws_toGenerationS_ok : FnOK Try.prog 86 S_laws_toGenerationS := by
 refine at_enter 23 (fun x => ⟨[(0, aF s223 x.1)], []⟩) Try.func86 rfl (by kernel_rfl) (fun x => rfl) ?_
 rintro w0 Z0 ⟨x0, u⟩ a w
 revert x0
 intro (x0 : (List T223)) hpre hlens h
 replace h : At w0 Z0 [] 23 ⟨[(0, aF s223 x0)], []⟩ a w := h
 replace hpre : (pTo s24) x0 := hpre
 have hl1 : List.length x0 ≤ 9223372036854775807 := hlens.1.1
 have hT : TabOK Try.prog S_laws_toGenerationS_tab := (.cons S_laws_toGeneration_ok .nil)
 have hp : Sh.sz s24 x0 ≤ 1048576 := hpre
 have hsz : Sh.sz s24 x0 = List.length x0 + ctL (Sh.sz s223) x0 := rfl
 refine wp_seq ?_
 refine at_regq [] { ts := [0, 2], os := [] } [] gamOK hT h (by kernel_rfl) trivial fun a w h => then_normal (wp_seq ?_)
 refine at_regq [{}, {}, { ids := [1] }] { ts := [0, 2, 3], os := [1] } [(0 : Int) ≤ ((List.length x0 : Nat) : Int) ∧ ((List.length x0 : Nat) : Int) = ((List.length x0 : Nat) : Int) ∧ ((List.length x0 : Nat) : Int) * (32 : Nat) ≤ (140737488355328 : Int)] gamOK hT h (by kernel_rfl) ⟨(by refine ⟨?_, ?_, ?_⟩ <;> ((have hA0 := mul_f ((List.length x0 : Nat) : Int) (32 : Nat); first | omega | (simp only [lsA, copyTo_len hok0]; omega) | (simp <;> omega)))), trivial⟩ fun a w h => then_normal (wp_seq (wp_seq ?_))
 refine at_regq [] { ts := [0, 2, 3, 4], os := [1] } [] gamOK hT h (by kernel_rfl) trivial fun a w h => then_normal (wp_block ?_)
 replace h := at_out (σ' := ⟨[(0, aF s223 x0), (2, .p (.c (cN))), (3, aS 1), (4, aI 0)], [(1, oR s218 (List.replicate (List.length x0) ((0, []) : T218)))]⟩) { ts := [0, 2, 3, 4], os := [1] } h (by kernel_rfl)
 refine at_loop (fun i : Nat => (⟨[(0, aF s223 x0), (2, .p (.c (cN))), (3, aS 1), (4, aI ((i : Nat) : Int))], [(1, oR s218 (copyTo (0, []) x0 i))]⟩ : St)) (fun i => i ≤ List.length x0) (fun i => List.length x0 - i) (0) h (st_congr2 (fun (d0 : List T218) (d1 : Int) => (⟨[(0, aF s223 x0), (2, .p (.c (cN))), (3, aS 1), (4, aI d1)], [(1, oR s218 d0)]⟩ : St)) (show ((List.replicate (List.length x0) ((0, []) : T218)) : List T218) = (copyTo (0, []) x0 (0)) from by first | with_reducible rfl | (exact copyTo_zero) | rfl) (show (0 : Int) = (((0) : Nat) : Int) from by first | with_reducible rfl | (exact copyTo_zero) | rfl)) (by first | omega | simp | (refine ⟨?_, ?_⟩ <;> first | omega | simp)) ?_
 intro i a w hok0 h
 refine wp_seq (wp_seq ?_)
 refine at_regq [] { ts := [0, 2, 3, 4, 11], os := [1] } [] gamOK hT h (by kernel_rfl) trivial fun a w h => then_normal ?_
 refine at_test (decide (((i : Nat) : Int) < ((List.length x0 : Nat) : Int))) h (by kernel_rfl) (fun h1 => ?_) (fun h1 => ?_)
 ·replace h1 : ((i : Nat) : Int) < ((List.length x0 : Nat) : Int) := of_decide_eq_true h1
  have hat := ctL_at_le (c := Sh.sz s223) (xs := x0) (z := (0, [])) (i := i) (by omega)
  refine wp_skip (then_normal (wp_seq (wp_block ?_)))
  refine at_regq [{}, {}, {}, {}, {}, {}, { ids := [2] }] { ts := [0, 2, 3, 4], os := [1] } [(0 : Int) ≤ ((i : Nat) : Int) ∧ ((i : Nat) : Int) < ((List.length x0 : Nat) : Int), (pTo s223) (x0.getD i (0, [])), (0 : Int) ≤ ((i : Nat) : Int) ∧ ((i : Nat) : Int) < ((List.length (copyTo (0, []) x0 i) : Nat) : Int), i < List.length (copyTo (0, []) x0 i)] gamOK hT h (by kernel_rfl) ⟨(by refine ⟨?_, ?_⟩ <;> (first | omega | (simp only [lsA, copyTo_len hok0]; omega) | (simp <;> omega))), (by (show Sh.sz _ _ ≤ 1048576; omega)), (by refine ⟨?_, ?_⟩ <;> (first | omega | (simp only [lsA, copyTo_len hok0]; omega) | (simp <;> omega))), (by first | omega | (simp only [lsA, copyTo_len hok0]; omega) | (simp <;> omega)), trivial⟩ fun a w h => in_normal (then_normal ?_)
  refine at_regq [{}, { nw := true }] { ts := [0, 2, 3, 4], os := [1] } [I64 (((i : Nat) : Int) + 1)] gamOK hT h (by kernel_rfl) ⟨⟨by first | omega | (simp only [lsA, copyTo_len hok0]; omega) | (simp <;> omega), by first | omega | (simp only [lsA, copyTo_len hok0]; omega) | (simp <;> omega)⟩, trivial⟩ fun a w h => ?_
  replace h := at_out (σ' := ⟨[(0, aF s223 x0), (2, .p (.c (cN))), (3, aS 1), (4, aI (((i : Nat) : Int) + 1))], [(1, oR s218 (List.set (copyTo (0, []) x0 i) i (x0.getD i (0, []))))]⟩) { ts := [0, 2, 3, 4], os := [1] } h (by kernel_rfl)
  exact ⟨i + 1, at_eq h (st_congr2 (fun (d0 : List T218) (d1 : Int) => (⟨[(0, aF s223 x0), (2, .p (.c (cN))), (3, aS 1), (4, aI d1)], [(1, oR s218 d0)]⟩ : St)) (show ((List.set (copyTo (0, []) x0 i) i (x0.getD i (0, []))) : List T218) = (copyTo (0, []) x0 (i + 1)) from by first | with_reducible rfl | (exact copyTo_set (by omega)) | rfl) (show (((i : Nat) : Int) + 1 : Int) = (((i + 1) : Nat) : Int) from by first | with_reducible rfl | (omega) | rfl)), (by first | omega | (refine ⟨?_, ?_⟩ <;> omega)), (by omega)⟩
 ·replace h1 : ¬ (((i : Nat) : Int) < ((List.length x0 : Nat) : Int)) := of_decide_eq_false h1
  refine wp_exit (then_exit (then_exit (in_hit (then_normal (wp_seq ?_)))))
  refine at_regq [] { ts := [2], os := [1] } [] gamOK hT h (by kernel_rfl) trivial fun a w h => then_normal (wp_ret ?_)
  exact at_return (S := S_laws_toGenerationS) (x := (x0, ())) ((copyTo (0, []) x0 i), ()) [] h (by kernel_rfl) trivial (congrArg (fun z => (z, ())) (show ((copyTo (0, []) x0 i)) = (idD s24) x0 from by (rw [copyTo_all (by omega)]; rfl)))

def S_laws_toRecoder : Sum := { fid := 65, dom := [s124], cod := [s128], dp := true, fz := false, pre := fun x => (pTo s124) x.1, g := fun x => (((idD s124) x.1), ()) }
def S_laws_toRecoder_tab : List (Nat × Sum) := [(155, S_laws_toCodedPacketS)]
theorem S_laws_toRecoder_ok : FnOK Try.prog 65 S_laws_toRecoder := by
 refine at_enter 21 (fun x => ⟨[(0, aG [cI x.1.1, cI x.1.2.1, cI x.1.2.2.1, .ro s44 x.1.2.2.2.1, cI x.1.2.2.2.2])], []⟩) Try.func65 rfl (by kernel_rfl) (fun x => rfl) ?_
 rintro w0 Z0 ⟨x0, u⟩ a w
 revert x0
 intro (x0 : T124) hpre hlens h
 replace h : At w0 Z0 [] 21 ⟨[(0, aG [cI x0.1, cI x0.2.1, cI x0.2.2.1, .ro s44 x0.2.2.2.1, cI x0.2.2.2.2])], []⟩ a w := h
 replace hpre : (pTo s124) x0 := hpre
 have hl1 : List.length x0.2.2.2.1 ≤ 9223372036854775807 := hlens.1.2.2.2.1.1
 have hT : TabOK Try.prog S_laws_toRecoder_tab := (.cons S_laws_toCodedPacketS_ok .nil)
 have hp : Sh.sz s124 x0 ≤ 1048576 := hpre
 have hsz : Sh.sz s124 x0 = (0 + (0 + (0 + ((Sh.sz s122 x0.2.2.2.1) + 0)))) := rfl
 refine wp_seq ?_
 refine at_regq [{ ids := [1] }, { ids := [2] }] { ts := [1, 2], os := [1, 2] } [] gamOK hT h (by kernel_rfl) trivial fun a w h => then_normal (wp_seq ?_)
 refine at_regq [{ ids := [3] }] { ts := [1, 2, 3], os := [1, 2, 3] } [] gamOK hT h (by kernel_rfl) trivial fun a w h => then_normal (wp_seq ?_)
 refine at_regq [] { ts := [1, 2, 3], os := [1, 2, 3] } [] gamOK hT h (by kernel_rfl) trivial fun a w h => then_normal (wp_seq ?_)
 refine at_regq [] { ts := [1, 2, 3], os := [1, 2, 3] } [] gamOK hT h (by kernel_rfl) trivial fun a w h => then_normal (wp_seq ?_)
 refine at_regq [] { ts := [1, 2, 3], os := [1, 2, 3] } [] gamOK hT h (by kernel_rfl) trivial fun a w h => then_normal (wp_seq ?_)
 refine at_regq [{}, {}, { ids := [4] }] { ts := [1, 2, 3], os := [1, 2, 3, 4] } [(pTo s122) x0.2.2.2.1] gamOK hT h (by kernel_rfl) ⟨(by (show Sh.sz _ _ ≤ 1048576; first | omega | (show (0 : Nat) ≤ 1048576; decide))), trivial⟩ fun a w h => then_normal (wp_seq ?_)
 refine at_regq [] { ts := [2, 3], os := [2, 3, 4] } [] gamOK hT h (by kernel_rfl) trivial fun a w h => then_normal (wp_seq ?_)
 refine at_regq [] { ts := [2], os := [2, 4] } [] gamOK hT h (by kernel_rfl) trivial fun a w h => then_normal (wp_ret ?_)
 exact at_return (S := S_laws_toRecoder) (x := (x0, ())) (x0, ()) [] h (by kernel_rfl) trivial (congrArg (fun z => (z, ())) (show (x0) = (idD s124) x0 from by rfl))

def S_laws_toRecoderS : Sum := { fid := 114, dom := [s78], cod := [s86], dp := true, fz := false, pre := fun x => (pTo s78) x.1, g := fun x => (((idD s78) x.1), ()) }
def S_laws_toRecoderS_tab : List (Nat × Sum) := [(65, S_laws_toRecoder)]
theorem S_laws_toRecoderS_ok : FnOK Try.prog 114 S_laws_toRecoderS := by
 refine at_enter 23 (fun x => ⟨[(0, aF s124 x.1)], []⟩) Try.func114 rfl (by kernel_rfl) (fun x => rfl) ?_
 rintro w0 Z0 ⟨x0, u⟩ a w
 revert x0
 intro (x0 : (List T124)) hpre hlens h
 replace h : At w0 Z0 [] 23 ⟨[(0, aF s124 x0)], []⟩ a w := h
 replace hpre : (pTo s78) x0 := hpre
 have hl1 : List.length x0 ≤ 9223372036854775807 := hlens.1.1
 have hT : TabOK Try.prog S_laws_toRecoderS_tab := (.cons S_laws_toRecoder_ok .nil)
 have hp : Sh.sz s78 x0 ≤ 1048576 := hpre
 have hsz : Sh.sz s78 x0 = List.length x0 + ctL (Sh.sz s124) x0 := rfl
 refine wp_seq ?_
 refine at_regq [] { ts := [0, 2], os := [] } [] gamOK hT h (by kernel_rfl) trivial fun a w h => then_normal (wp_seq ?_)
 refine at_regq [{}, {}, { ids := [1] }] { ts := [0, 2, 3], os := [1] } [(0 : Int) ≤ ((List.length x0 : Nat) : Int) ∧ ((List.length x0 : Nat) : Int) = ((List.length x0 : Nat) : Int) ∧ ((List.length x0 : Nat) : Int) * (56 : Nat) ≤ (140737488355328 : Int)] gamOK hT h (by kernel_rfl) ⟨(by refine ⟨?_, ?_, ?_⟩ <;> ((have hA0 := mul_f ((List.length x0 : Nat) : Int) (56 : Nat); first | omega | (simp only [lsA, copyTo_len hok0]; omega) | (simp <;> omega)))), trivial⟩ fun a w h => then_normal (wp_seq (wp_seq ?_))
 refine at_regq [] { ts := [0, 2, 3, 4], os := [1] } [] gamOK hT h (by kernel_rfl) trivial fun a w h => then_normal (wp_block ?_)
 replace h := at_out (σ' := ⟨[(0, aF s124 x0), (2, .p (.c (cN))), (3, aS 1), (4, aI 0)], [(1, oR s128 (List.replicate (List.length x0) ((0, (0, (0, ([], 0)))) : T128)))]⟩) { ts := [0, 2, 3, 4], os := [1] } h (by kernel_rfl)
 refine at_loop (fun i : Nat => (⟨[(0, aF s124 x0), (2, .p (.c (cN))), (3, aS 1), (4, aI ((i : Nat) : Int))], [(1, oR s128 (copyTo (0, (0, (0, ([], 0)))) x0 i))]⟩ : St)) (fun i => i ≤ List.length x0) (fun i => List.length x0 - i) (0) h (st_congr2 (fun (d0 : List T128) (d1 : Int) => (⟨[(0, aF s124 x0), (2, .p (.c (cN))), (3, aS 1), (4, aI d1)], [(1, oR s128 d0)]⟩ : St)) (show ((List.replicate (List.length x0) ((0, (0, (0, ([], 0)))) : T128)) : List T128) = (copyTo (0, (0, (0, ([], 0)))) x0 (0)) from by first | with_reducible rfl | (exact copyTo_zero) | rfl) (show (0 : Int) = (((0) : Nat) : Int) from by first | with_reducible rfl | (exact copyTo_zero) | rfl)) (by first | omega | simp | (refine ⟨?_, ?_⟩ <;> first | omega | simp)) ?_
 intro i a w hok0 h
 refine wp_seq (wp_seq ?_)
 refine at_regq [] { ts := [0, 2, 3, 4, 11], os := [1] } [] gamOK hT h (by kernel_rfl) trivial fun a w h => then_normal ?_
 refine at_test (decide (((i : Nat) : Int) < ((List.length x0 : Nat) : Int))) h (by kernel_rfl) (fun h1 => ?_) (fun h1 => ?_)
 ·replace h1 : ((i : Nat) : Int) < ((List.length x0 : Nat) : Int) := of_decide_eq_true h1
  have hat := ctL_at_le (c := Sh.sz s124) (xs := x0) (z := (0, (0, (0, ([], 0))))) (i := i) (by omega)
  refine wp_skip (then_normal (wp_seq (wp_block ?_)))
  refine at_regq [{}, {}, {}, {}, {}, {}, { ids := [2] }] { ts := [0, 2, 3, 4], os := [1] } [(0 : Int) ≤ ((i : Nat) : Int) ∧ ((i : Nat) : Int) < ((List.length x0 : Nat) : Int), (pTo s124) (x0.getD i (0, (0, (0, ([], 0))))), (0 : Int) ≤ ((i : Nat) : Int) ∧ ((i : Nat) : Int) < ((List.length (copyTo (0, (0, (0, ([], 0)))) x0 i) : Nat) : Int), i < List.length (copyTo (0, (0, (0, ([], 0)))) x0 i)] gamOK hT h (by kernel_rfl) ⟨(by refine ⟨?_, ?_⟩ <;> (first | omega | (simp only [lsA, copyTo_len hok0]; omega) | (simp <;> omega))), (by (show Sh.sz _ _ ≤ 1048576; omega)), (by refine ⟨?_, ?_⟩ <;> (first | omega | (simp only [lsA, copyTo_len hok0]; omega) | (simp <;> omega))), (by first | omega | (simp only [lsA, copyTo_len hok0]; omega) | (simp <;> omega)), trivial⟩ fun a w h => in_normal (then_normal ?_)
  refine at_regq [{}, { nw := true }] { ts := [0, 2, 3, 4], os := [1] } [I64 (((i : Nat) : Int) + 1)] gamOK hT h (by kernel_rfl) ⟨⟨by first | omega | (simp only [lsA, copyTo_len hok0]; omega) | (simp <;> omega), by first | omega | (simp only [lsA, copyTo_len hok0]; omega) | (simp <;> omega)⟩, trivial⟩ fun a w h => ?_
  replace h := at_out (σ' := ⟨[(0, aF s124 x0), (2, .p (.c (cN))), (3, aS 1), (4, aI (((i : Nat) : Int) + 1))], [(1, oR s128 (List.set (copyTo (0, (0, (0, ([], 0)))) x0 i) i (x0.getD i (0, (0, (0, ([], 0)))))))]⟩) { ts := [0, 2, 3, 4], os := [1] } h (by kernel_rfl)
  exact ⟨i + 1, at_eq h (st_congr2 (fun (d0 : List T128) (d1 : Int) => (⟨[(0, aF s124 x0), (2, .p (.c (cN))), (3, aS 1), (4, aI d1)], [(1, oR s128 d0)]⟩ : St)) (show ((List.set (copyTo (0, (0, (0, ([], 0)))) x0 i) i (x0.getD i (0, (0, (0, ([], 0)))))) : List T128) = (copyTo (0, (0, (0, ([], 0)))) x0 (i + 1)) from by first | with_reducible rfl | (exact copyTo_set (by omega)) | rfl) (show (((i : Nat) : Int) + 1 : Int) = (((i + 1) : Nat) : Int) from by first | with_reducible rfl | (omega) | rfl)), (by first | omega | (refine ⟨?_, ?_⟩ <;> omega)), (by omega)⟩
 ·replace h1 : ¬ (((i : Nat) : Int) < ((List.length x0 : Nat) : Int)) := of_decide_eq_false h1
  refine wp_exit (then_exit (then_exit (in_hit (then_normal (wp_seq ?_)))))
  refine at_regq [] { ts := [2], os := [1] } [] gamOK hT h (by kernel_rfl) trivial fun a w h => then_normal (wp_ret ?_)
  exact at_return (S := S_laws_toRecoderS) (x := (x0, ())) ((copyTo (0, (0, (0, ([], 0)))) x0 i), ()) [] h (by kernel_rfl) trivial (congrArg (fun z => (z, ())) (show ((copyTo (0, (0, (0, ([], 0)))) x0 i)) = (idD s78) x0 from by (rw [copyTo_all (by omega)]; rfl)))

def S_laws_toSendWindow : Sum := { fid := 113, dom := [s77], cod := [s85], dp := true, fz := false, pre := fun x => (pTo s77) x.1, g := fun x => (((idD s77) x.1), ()) }
def S_laws_toSendWindow_tab : List (Nat × Sum) := []
theorem S_laws_toSendWindow_ok : FnOK Try.prog 113 S_laws_toSendWindow := by
 refine at_enter 17 (fun x => ⟨[(0, aG [cI x.1.1, cI x.1.2.1, cI x.1.2.2.1, cI x.1.2.2.2])], []⟩) Try.func113 rfl (by kernel_rfl) (fun x => rfl) ?_
 rintro w0 Z0 ⟨x0, u⟩ a w
 revert x0
 intro (x0 : T77) hpre hlens h
 replace h : At w0 Z0 [] 17 ⟨[(0, aG [cI x0.1, cI x0.2.1, cI x0.2.2.1, cI x0.2.2.2])], []⟩ a w := h
 replace hpre : (pTo s77) x0 := hpre
 have hT : TabOK Try.prog S_laws_toSendWindow_tab := .nil
 have hp : Sh.sz s77 x0 ≤ 1048576 := hpre
 have hsz : Sh.sz s77 x0 = (0 + (0 + (0 + 0))) := rfl
 refine wp_seq ?_
 refine at_regq [{ ids := [1] }, { ids := [2] }] { ts := [1, 2], os := [1, 2] } [] gamOK hT h (by kernel_rfl) trivial fun a w h => then_normal (wp_seq ?_)
 refine at_regq [{ ids := [3] }] { ts := [1, 2, 3], os := [1, 2, 3] } [] gamOK hT h (by kernel_rfl) trivial fun a w h => then_normal (wp_seq ?_)
 refine at_regq [] { ts := [1, 2, 3], os := [1, 2, 3] } [] gamOK hT h (by kernel_rfl) trivial fun a w h => then_normal (wp_seq ?_)
 refine at_regq [] { ts := [1, 2, 3], os := [1, 2, 3] } [] gamOK hT h (by kernel_rfl) trivial fun a w h => then_normal (wp_seq ?_)
 refine at_regq [] { ts := [1, 2, 3], os := [1, 2, 3] } [] gamOK hT h (by kernel_rfl) trivial fun a w h => then_normal (wp_seq ?_)
 refine at_regq [] { ts := [2, 3], os := [2, 3] } [] gamOK hT h (by kernel_rfl) trivial fun a w h => then_normal (wp_seq ?_)
 refine at_regq [] { ts := [2], os := [2] } [] gamOK hT h (by kernel_rfl) trivial fun a w h => then_normal (wp_ret ?_)
 exact at_return (S := S_laws_toSendWindow) (x := (x0, ())) (x0, ()) [] h (by kernel_rfl) trivial (congrArg (fun z => (z, ())) (show (x0) = (idD s77) x0 from by rfl))

def S_laws_toSource : Sum := { fid := 40, dom := [s83], cod := [s91], dp := true, fz := false, pre := fun x => (pTo s83) x.1, g := fun x => (((idD s83) x.1), ()) }
def S_laws_toSource_tab : List (Nat × Sum) := [(86, S_laws_toGenerationS), (113, S_laws_toSendWindow), (114, S_laws_toRecoderS), (115, S_laws_toFeedbackTable)]
theorem S_laws_toSource_ok : FnOK Try.prog 40 S_laws_toSource := by
 refine at_enter 24 (fun x => ⟨[(0, aG [.ro s223 x.1.1, cI x.1.2.1.1, cI x.1.2.1.2.1, cI x.1.2.1.2.2.1, cI x.1.2.1.2.2.2, .ro s124 x.1.2.2.1, .ro s285 x.1.2.2.2.1, cI x.1.2.2.2.2])], []⟩) Try.func40 rfl (by kernel_rfl) (fun x => rfl) ?_
 rintro w0 Z0 ⟨x0, u⟩ a w
 revert x0
 intro (x0 : T83) hpre hlens h
 replace h : At w0 Z0 [] 24 ⟨[(0, aG [.ro s223 x0.1, cI x0.2.1.1, cI x0.2.1.2.1, cI x0.2.1.2.2.1, cI x0.2.1.2.2.2, .ro s124 x0.2.2.1, .ro s285 x0.2.2.2.1, cI x0.2.2.2.2])], []⟩ a w := h
 replace hpre : (pTo s83) x0 := hpre
 have hl1 : List.length x0.1 ≤ 9223372036854775807 := hlens.1.1.1
 have hl2 : List.length x0.2.2.1 ≤ 9223372036854775807 := hlens.1.2.2.1.1
 have hl3 : List.length x0.2.2.2.1 ≤ 9223372036854775807 := hlens.1.2.2.2.1.1
 have hT : TabOK Try.prog S_laws_toSource_tab := (.cons S_laws_toGenerationS_ok (.cons S_laws_toSendWindow_ok (.cons S_laws_toRecoderS_ok (.cons S_laws_toFeedbackTable_ok .nil))))
 have hp : Sh.sz s83 x0 ≤ 1048576 := hpre
 have hsz : Sh.sz s83 x0 = ((Sh.sz s24 x0.1) + (0 + ((Sh.sz s78 x0.2.2.1) + ((Sh.sz s81 x0.2.2.2.1) + 0)))) := rfl
 refine wp_seq ?_
 refine at_regq [{ ids := [1] }, { ids := [2] }] { ts := [1, 2], os := [1, 2] } [] gamOK hT h (by kernel_rfl) trivial fun a w h => then_normal (wp_seq ?_)
 refine at_regq [{ ids := [3] }] { ts := [1, 2, 3], os := [1, 2, 3] } [] gamOK hT h (by kernel_rfl) trivial fun a w h => then_normal (wp_seq ?_)
 refine at_regq [{}, {}, { ids := [4] }] { ts := [1, 2, 3], os := [1, 2, 3, 4] } [(pTo s24) x0.1] gamOK hT h (by kernel_rfl) ⟨(by (show Sh.sz _ _ ≤ 1048576; first | omega | (show (0 : Nat) ≤ 1048576; decide))), trivial⟩ fun a w h => then_normal (wp_seq ?_)
 refine at_regq [] { ts := [1, 2, 3], os := [1, 2, 3, 4] } [(pTo s77) x0.2.1] gamOK hT h (by kernel_rfl) ⟨(by (show Sh.sz _ _ ≤ 1048576; first | omega | (show (0 : Nat) ≤ 1048576; decide))), trivial⟩ fun a w h => then_normal (wp_seq ?_)
 refine at_regq [{}, {}, { ids := [5] }] { ts := [1, 2, 3], os := [1, 2, 3, 4, 5] } [(pTo s78) x0.2.2.1] gamOK hT h (by kernel_rfl) ⟨(by (show Sh.sz _ _ ≤ 1048576; first | omega | (show (0 : Nat) ≤ 1048576; decide))), trivial⟩ fun a w h => then_normal (wp_seq ?_)
 refine at_regq [{}, {}, { ids := [6] }] { ts := [1, 2, 3], os := [1, 2, 3, 4, 5, 6] } [(pTo s81) x0.2.2.2.1] gamOK hT h (by kernel_rfl) ⟨(by (show Sh.sz _ _ ≤ 1048576; first | omega | (show (0 : Nat) ≤ 1048576; decide))), trivial⟩ fun a w h => then_normal (wp_seq ?_)
 refine at_regq [] { ts := [2, 3], os := [2, 3, 4, 5, 6] } [] gamOK hT h (by kernel_rfl) trivial fun a w h => then_normal (wp_seq ?_)
 refine at_regq [] { ts := [2], os := [2, 4, 5, 6] } [] gamOK hT h (by kernel_rfl) trivial fun a w h => then_normal (wp_ret ?_)
 exact at_return (S := S_laws_toSource) (x := (x0, ())) (x0, ()) [] h (by kernel_rfl) trivial (congrArg (fun z => (z, ())) (show (x0) = (idD s83) x0 from by rfl))

def S_spec_EqualInts : Sum := { fid := 330, dom := [s22, s22], cod := [(.bool 4)], dp := true, fz := false, pre := fun x => True, g := fun x => (((Sh.eqB s22) x.1 x.2.1), ()) }
def S_spec_EqualInts_tab : List (Nat × Sum) := []
theorem S_spec_EqualInts_ok : FnOK Try.prog 330 S_spec_EqualInts := by
 refine at_enter 26 (fun x => ⟨[(0, aF (.int 3) x.1), (1, aF (.int 3) x.2.1)], []⟩) Try.func330 rfl (by kernel_rfl) (fun x => rfl) ?_
 rintro w0 Z0 ⟨x0, x1, u⟩ a w
 revert x0 x1
 intro (x0 : (List Int)) (x1 : (List Int)) hpre hlens h
 replace h : At w0 Z0 [] 26 ⟨[(0, aF (.int 3) x0), (1, aF (.int 3) x1)], []⟩ a w := h
 have hl1 : List.length x0 ≤ 9223372036854775807 := hlens.1.1
 have hl2 : List.length x1 ≤ 9223372036854775807 := hlens.2.1.1
 have hT : TabOK Try.prog S_spec_EqualInts_tab := .nil
 refine wp_seq ?_
 refine at_regq [] { ts := [0, 1, 4], os := [] } [] gamOK hT h (by kernel_rfl) trivial fun a w h => then_normal (wp_seq (wp_seq ?_))
 refine at_regq [] { ts := [0, 1, 4, 10], os := [] } [] gamOK hT h (by kernel_rfl) trivial fun a w h => then_normal ?_
 refine at_test (!decide (((List.length x0 : Nat) : Int) = ((List.length x1 : Nat) : Int))) h (by kernel_rfl) (fun h1 => ?_) (fun h1 => ?_)
 ·replace h1 : ¬ (((List.length x0 : Nat) : Int) = ((List.length x1 : Nat) : Int)) := of_decide_eq_false (notT h1)
  refine wp_seq ?_
  refine at_regq [] { ts := [0, 1, 4], os := [] } [] gamOK hT h (by kernel_rfl) trivial fun a w h => then_normal (wp_ret (then_ret ?_))
  exact at_return (S := S_spec_EqualInts) (x := (x0, x1, ())) (false, ()) [] h (by kernel_rfl) trivial (congrArg (fun z => (z, ())) (show (false) = (Sh.eqB s22) x0 x1 from by exact (Sh.eqB_ne (fun e => h1 (by rw [e]))).symm))
 ·replace h1 : ((List.length x0 : Nat) : Int) = ((List.length x1 : Nat) : Int) := of_decide_eq_true (notF h1)
  refine wp_skip (then_normal (wp_seq (wp_seq ?_)))
  refine at_regq [] { ts := [0, 1, 4, 5], os := [] } [] gamOK hT h (by kernel_rfl) trivial fun a w h => then_normal (wp_block ?_)
  replace h := at_out (σ' := ⟨[(0, aF (.int 3) x0), (1, aF (.int 3) x1), (4, aB false), (5, aI 0)], []⟩) { ts := [0, 1, 4, 5], os := [] } h (by kernel_rfl)
  refine at_loop (fun i : Nat => (⟨[(0, aF (.int 3) x0), (1, aF (.int 3) x1), (4, aB false), (5, aI ((i : Nat) : Int))], []⟩ : St)) (fun i => (i ≤ List.length x0 ∧ x0.take i = x1.take i)) (fun i => List.length x0 - i) (0) h (st_congr1 (fun (d0 : Int) => (⟨[(0, aF (.int 3) x0), (1, aF (.int 3) x1), (4, aB false), (5, aI d0)], []⟩ : St)) (show (0 : Int) = (((0) : Nat) : Int) from by first | with_reducible rfl | (rfl) | rfl)) (by exact ⟨Nat.zero_le _, rfl⟩) ?_
  intro i a w hok0 h
  refine wp_seq (wp_seq ?_)
  refine at_regq [] { ts := [0, 1, 4, 5, 14], os := [] } [] gamOK hT h (by kernel_rfl) trivial fun a w h => then_normal ?_
  refine at_test (decide (((i : Nat) : Int) < ((List.length x0 : Nat) : Int))) h (by kernel_rfl) (fun h2 => ?_) (fun h2 => ?_)
  ·replace h2 : ((i : Nat) : Int) < ((List.length x0 : Nat) : Int) := of_decide_eq_true h2
   refine wp_skip (then_normal (wp_seq (wp_block (wp_seq ?_))))
   refine at_anyq [{}, {}, {}, {}, {}, {}, {}, {}, {}] { ts := [0, 1, 4, 5, 25], os := [] } [(0 : Int) ≤ ((i : Nat) : Int) ∧ ((i : Nat) : Int) < ((List.length x0 : Nat) : Int), (0 : Int) ≤ ((i : Nat) : Int) ∧ ((i : Nat) : Int) < ((List.length x1 : Nat) : Int)] gamOK hT mixed h (by kernel_rfl) ⟨(by refine ⟨?_, ?_⟩ <;> (first | omega | (simp only [lsA]; omega) | (simp <;> omega))), (by refine ⟨?_, ?_⟩ <;> (first | omega | (simp only [lsA]; omega) | (simp <;> omega))), trivial⟩ fun a w h => then_normal ?_
   refine at_test (!decide ((x0.getD i 0) = (x1.getD i 0))) h (by kernel_rfl) (fun h3 => ?_) (fun h3 => ?_)
   ·replace h3 : ¬ ((x0.getD i 0) = (x1.getD i 0)) := of_decide_eq_false (notT h3)
    refine wp_seq ?_
    refine at_regq [] { ts := [0, 1, 4, 5], os := [] } [] gamOK hT h (by kernel_rfl) trivial fun a w h => then_normal (wp_ret (in_ret (then_ret (then_ret (in_ret (then_ret ?_))))))
    exact at_return (S := S_spec_EqualInts) (x := (x0, x1, ())) (false, ()) [] h (by kernel_rfl) trivial (congrArg (fun z => (z, ())) (show (false) = (Sh.eqB s22) x0 x1 from by exact (Sh.eqB_ne (s := s22) (fun e => h3 (by rw [e]))).symm))
   ·replace h3 : (x0.getD i 0) = (x1.getD i 0) := of_decide_eq_true (notF h3)
    refine wp_skip (in_normal (then_normal ?_))
    refine at_regq [{}, { nw := true }] { ts := [0, 1, 4, 5], os := [] } [I64 (((i : Nat) : Int) + 1)] gamOK hT h (by kernel_rfl) ⟨⟨by first | omega | (simp only [lsA]; omega) | (simp <;> omega), by first | omega | (simp only [lsA]; omega) | (simp <;> omega)⟩, trivial⟩ fun a w h => ?_
    replace h := at_out (σ' := ⟨[(0, aF (.int 3) x0), (1, aF (.int 3) x1), (4, aB false), (5, aI (((i : Nat) : Int) + 1))], []⟩) { ts := [0, 1, 4, 5], os := [] } h (by kernel_rfl)
    exact ⟨i + 1, at_eq h (st_congr1 (fun (d0 : Int) => (⟨[(0, aF (.int 3) x0), (1, aF (.int 3) x1), (4, aB false), (5, aI d0)], []⟩ : St)) (show (((i : Nat) : Int) + 1 : Int) = (((i + 1) : Nat) : Int) from by first | with_reducible rfl | (omega) | rfl)), (by exact ⟨by omega, eqTo_step (z := 0) (by omega) (by omega) hok0.2 h3⟩), (by omega)⟩
  ·replace h2 : ¬ (((i : Nat) : Int) < ((List.length x0 : Nat) : Int)) := of_decide_eq_false h2
   refine wp_exit (then_exit (then_exit (in_hit (then_normal (wp_seq ?_)))))
   refine at_regq [] { ts := [4], os := [] } [] gamOK hT h (by kernel_rfl) trivial fun a w h => then_normal (wp_ret ?_)
   exact at_return (S := S_spec_EqualInts) (x := (x0, x1, ())) (true, ()) [] h (by kernel_rfl) trivial (congrArg (fun z => (z, ())) (show (true) = (Sh.eqB s22) x0 x1 from by (have e := hok0.2; rw [take_all (by omega), take_all (by omega)] at e; exact ((Sh.eqB_iff s22).2 e).symm)))

def D_cmp_isNaN_int_ := (fun (_ : Int) => false)
def S_cmp_isNaN_int_ : Sum := { fid := 306, dom := [(.int 3)], cod := [(.bool 4)], dp := true, fz := false, pre := fun x => True, g := fun x => ((D_cmp_isNaN_int_ x.1), ()) }
def S_cmp_isNaN_int__tab : List (Nat × Sum) := []
theorem S_cmp_isNaN_int__ok : FnOK Try.prog 306 S_cmp_isNaN_int_ := by
 refine at_enter 6 (fun x => ⟨[(0, aI x.1)], []⟩) Try.func306 rfl (by kernel_rfl) (fun x => rfl) ?_
 rintro w0 Z0 ⟨x0, u⟩ a w
 revert x0
 intro (x0 : Int) hpre hlens h
 replace h : At w0 Z0 [] 6 ⟨[(0, aI x0)], []⟩ a w := h
 have hT : TabOK Try.prog S_cmp_isNaN_int__tab := .nil
 refine wp_seq ?_
 refine at_regq [] { ts := [0, 2], os := [] } [] gamOK hT h (by kernel_rfl) trivial fun a w h => then_normal (wp_seq ?_)
 refine at_regq [] { ts := [2], os := [] } [] gamOK hT h (by kernel_rfl) trivial fun a w h => then_normal (wp_ret ?_)
 exact at_return (S := S_cmp_isNaN_int_) (x := (x0, ())) (!decide (x0 = x0), ()) [] h (by kernel_rfl) trivial (congrArg (fun z => (z, ())) (show (!decide (x0 = x0)) = D_cmp_isNaN_int_ x0 from by unfold D_cmp_isNaN_int_; simp))

theorem shr1 {n : Nat} : Int.fdiv (n : Int) (2 ^ (min (1 : Int).toNat (IntKind.i64).bits)) = ((n / 2 : Nat) : Int) := by
  have e2 : (2 : Int) ^ (min (1 : Int).toNat (IntKind.i64).bits) = 2 := by decide
  rw [e2, Int.fdiv_eq_ediv_of_nonneg _ (by omega)]; omega
theorem and1 {n : Nat} (h : n ≤ 4611686018427387904) : IntKind.i64.wrap ((BitVec.ofInt (IntKind.i64).bits (n : Int) &&& BitVec.ofInt (IntKind.i64).bits 1).toNat : Int) = ((n % 2 : Nat) : Int) := by
  have e : (BitVec.ofInt (IntKind.i64).bits (n : Int) &&& BitVec.ofInt (IntKind.i64).bits 1).toNat = n % 2 := by
    rw [BitVec.toNat_and]
    have h1 : (BitVec.ofInt (IntKind.i64).bits (n : Int)).toNat = n := by
      rw [BitVec.toNat_ofInt]
      simp [IntKind.bits]
      omega
    have h2 : (BitVec.ofInt (IntKind.i64).bits 1).toNat = 1 := by decide
    rw [h1, h2, Nat.and_one_is_mod]
  rw [e, IntKind.wrap_i64]; omega
theorem lead_idx : ∀ {xs : List Int}, idxF (fun e => !decide (e = 0)) xs = LA.leadS xs
  | [] => rfl
  | x :: l => by
    have ih := lead_idx (xs := l)
    simp only [idxF, LA.leadS, ih]
    by_cases h : x = 0
    · rw [if_neg (show ¬ (!decide (x = 0)) = true by simp [h]), if_neg (show ¬ x ≠ 0 from fun e => e h)]
    · rw [if_pos (show (!decide (x = 0)) = true by simp [h]), if_pos h]
def powP (a n m : Int) : Prop := (0 ≤ a ∧ a < m) ∧ (0 ≤ n ∧ n ≤ 4611686018427387904) ∧ 1 < m ∧ m ≤ 1048576
def powD (a n m : Int) : Int := LA.pmL m 1 a n.toNat
def powOK (x0 x1 x2 : Int) (q : Int × Int × Nat) : Prop := LA.pmL x2 q.1 q.2.1 q.2.2 = powD x0 x1 x2 ∧ (0 ≤ q.1 ∧ q.1 < x2) ∧ (0 ≤ q.2.1 ∧ q.2.1 < x2) ∧ q.2.2 ≤ 4611686018427387904
theorem powOK_odd {x0 x1 x2 : Int} {q : Int × Int × Nat} (h : powOK x0 x1 x2 q) (hm : 1 < x2) (h2 : q.2.2 % 2 = 1) : powOK x0 x1 x2 ((q.1 * q.2.1).tmod x2, (q.2.1 * q.2.1).tmod x2, q.2.2 / 2) := by
  obtain ⟨h0, ⟨h3, h4⟩, ⟨h5, h6⟩, h7⟩ := h
  exact ⟨by rw [← h0]; exact (LA.pmL_odd h2).symm, LA.tmod_lt (Int.mul_nonneg h3 h5) (by omega), LA.tmod_lt (Int.mul_nonneg h5 h5) (by omega), by dsimp only; omega⟩
theorem powOK_even {x0 x1 x2 : Int} {q : Int × Int × Nat} (h : powOK x0 x1 x2 q) (hm : 1 < x2) (h1 : q.2.2 ≠ 0) (h2 : q.2.2 % 2 = 0) : powOK x0 x1 x2 (q.1, (q.2.1 * q.2.1).tmod x2, q.2.2 / 2) := by
  obtain ⟨h0, ⟨h3, h4⟩, ⟨h5, h6⟩, h7⟩ := h
  exact ⟨by rw [← h0]; exact (LA.pmL_even h1 h2).symm, ⟨h3, h4⟩, LA.tmod_lt (Int.mul_nonneg h5 h5) (by omega), by dsimp only; omega⟩
/-- inverse, zero stays zero -/
def invF (x : Int) : Int := if isEl x = true then LA.invS x else 0
theorem invS_zero : LA.invS 0 = 0 := by
  have h := LA.pmL_bd (m := 1019) (by decide) 10 1017 1 0 (by decide) (by decide) (by decide) (by decide)
  have h2 := LA.pmL_c 10 1017 1 0 (by decide) (by decide) (by decide)
  have h3 : LA.c (LA.invS 0) = 0 := by unfold LA.invS; rw [h2]; decide +kernel
  exact (LA.c_ne ⟨h.1, by have := h.2; show LA.pmL 1019 1 0 1017 ≤ 1018; omega⟩).1 h3
theorem invF_bd (x : Int) : 0 ≤ invF x ∧ invF x ≤ 1018 := by
  unfold invF
  split
  · rename_i h
    have hx := isEl_t h
    have := LA.pmL_bd (m := 1019) (by decide) 10 1017 1 x (by decide) (by decide) (by decide) hx.1
    unfold LA.invS; omega
  · omega
theorem invF_el {x : Int} (h : 0 ≤ x ∧ x ≤ 1018) : invF x = LA.invS x := if_pos (inR_true h)
theorem elB {v : List Int} (h : ∀ x ∈ v, LA.El x) (j : Nat) : 0 ≤ v.getD j 0 ∧ v.getD j 0 ≤ 1018 := LA.VokB.at_ (n := v.length) ⟨rfl, h⟩ j
def addOK (a b : List Int) (k : Int) : Prop := List.length a = List.length b ∧ (0 ≤ k ∧ k ≤ 1019) ∧ (∀ j, 0 ≤ a.getD j 0 ∧ a.getD j 0 ≤ 1018) ∧ (∀ j, 0 ≤ b.getD j 0 ∧ b.getD j 0 ≤ 1018)
/-- i components done -/
def addTo (a b : List Int) (k : Int) (i : Nat) : List Int := (LA.addS a b k).take i ++ a.drop i
theorem addTo_len {a b : List Int} {k : Int} {i : Nat} (h : a.length = b.length) (hi : i ≤ a.length) : (addTo a b k i).length = a.length := by
  simp [addTo, LA.addS_len h]; omega
theorem addTo_get {a b : List Int} {k : Int} {i : Nat} (h : a.length = b.length) (hi : i < a.length) : (addTo a b k i).getD i 0 = a.getD i 0 := by
  have hl : (List.take i (LA.addS a b k)).length = i := by simp [LA.addS_len h]; omega
  unfold addTo
  simp only [List.getD_eq_getElem?_getD]
  rw [List.getElem?_append_right (by omega), hl, List.getElem?_drop]; simp
theorem addTo_set {a b : List Int} {k : Int} {i : Nat} (h : a.length = b.length) (hi : i < a.length) : (addTo a b k i).set i ((a.getD i 0 + k * b.getD i 0).tmod 1019) = addTo a b k (i + 1) := by
  have hl : (List.take i (LA.addS a b k)).length = i := by simp [LA.addS_len h]; omega
  unfold addTo
  rw [List.set_append_right _ _ (by omega), hl, Nat.sub_self, take_snoc (z := 0) (by rw [LA.addS_len h]; exact hi), LA.addS_at h, List.append_assoc]
  congr 1
  rw [← List.getElem_cons_drop hi, List.set_cons_zero]; rfl
theorem addTo_all {a b : List Int} {k : Int} {i : Nat} (h : a.length = b.length) (hi : a.length ≤ i) : addTo a b k i = LA.addS a b k := by
  unfold addTo
  rw [take_all (by rw [LA.addS_len h]; exact hi), List.drop_eq_nil_of_le hi, List.append_nil]
theorem addS_zero {v : List Int} {k : Int} : LA.addS (List.replicate v.length 0) v k = LA.scaleS v k := by
  unfold LA.addS LA.scaleS
  induction v with
  | nil => rfl
  | cons x l ih =>
    rw [List.length_cons, List.replicate_succ, List.zipWith_cons_cons, List.map_cons, ih, Int.zero_add, Int.mul_comm]
theorem validV_el {v : List Int} (h : List.all v isEl = true) : ∀ x ∈ v, LA.El x := fun x hx => isEl_t (List.all_eq_true.1 h x hx)
abbrev scF (k x : Int) : Int := (x * k).tmod 1019
theorem rep_get (n j : Nat) : (List.replicate n (0 : Int)).getD j 0 = 0 := by
  rw [List.getD_eq_getElem?_getD, List.getElem?_replicate]; split <;> rfl
theorem addS_take_le (a b : List Int) (k : Int) (i : Nat) : List.length (List.take i (LA.addS a b k)) ≤ List.length a := by simp [LA.addS]; omega
/-- the leading index of the row before -/
def prevL (m : List (List Int)) (i : Nat) : Int := if i = 0 then -1 else LA.leadS (m.getD (i - 1) [])
theorem prevL_bd (m : List (List Int)) (i : Nat) : -1 ≤ prevL m i := by
  unfold prevL; split
  · omega
  · have := LA.leadS_bd (m.getD (i - 1) []); omega
def clrB (m : List (List Int)) (i k : Nat) : Bool := decide (k = i) || decide ((m.getD k []).getD (LA.leadS (m.getD i [])).toNat 0 = 0)
theorem clrB_t {m : List (List Int)} {i k : Nat} (h : (k : Int) = (i : Int) ∨ (m.getD k []).getD (LA.leadS (m.getD i [])).toNat 0 = 0) : clrB m i k = true := by
  unfold clrB; rw [Bool.or_eq_true, decide_eq_true_iff, decide_eq_true_iff]; omega
theorem clrB_f {m : List (List Int)} {i k : Nat} (h1 : ¬ (k : Int) = (i : Int)) (h2 : ¬ (m.getD k []).getD (LA.leadS (m.getD i [])).toNat 0 = 0) : clrB m i k = false := by
  unfold clrB; rw [Bool.or_eq_false_iff, decide_eq_false_iff_not, decide_eq_false_iff_not]; omega
def redB (m : List (List Int)) (i : Nat) : Bool := decide (prevL m i < LA.leadS (m.getD i [])) && (decide ((m.getD i []).getD (LA.leadS (m.getD i [])).toNat 0 = 1) && allN (clrB m i) m.length)
theorem redB_t {m : List (List Int)} {i : Nat} (h1 : prevL m i < LA.leadS (m.getD i [])) (h2 : (m.getD i []).getD (LA.leadS (m.getD i [])).toNat 0 = 1) (h3 : allN (clrB m i) m.length = true) : redB m i = true := by
  unfold redB; rw [decide_eq_true h1, decide_eq_true h2, h3]; rfl
theorem redB_f1 {m : List (List Int)} {i : Nat} (h : LA.leadS (m.getD i []) ≤ prevL m i) : redB m i = false := by
  unfold redB; rw [decide_eq_false (by omega)]; rfl
theorem redB_f2 {m : List (List Int)} {i : Nat} (h : ¬ (m.getD i []).getD (LA.leadS (m.getD i [])).toNat 0 = 1) : redB m i = false := by
  unfold redB; rw [decide_eq_false h, Bool.false_and, Bool.and_false]
theorem redB_f3 {m : List (List Int)} {i : Nat} (h : allN (clrB m i) m.length = false) : redB m i = false := by
  unfold redB; rw [h, Bool.and_false, Bool.and_false]
theorem redB_iff {m : List (List Int)} {i : Nat} : redB m i = true ↔ LA.redAt m i := by
  unfold redB LA.redAt prevL
  rw [Bool.and_eq_true, Bool.and_eq_true, decide_eq_true_iff, decide_eq_true_iff, allN_iff]
  constructor
  · rintro ⟨h1, h2, h3⟩
    refine ⟨h1, h2, fun k hk hne => ?_⟩
    have := h3 k hk
    unfold clrB at this
    rw [Bool.or_eq_true, decide_eq_true_iff, decide_eq_true_iff] at this
    rcases this with h | h
    · exact absurd h hne
    · exact h
  · rintro ⟨h1, h2, h3⟩
    refine ⟨h1, h2, fun k hk => ?_⟩
    unfold clrB
    rw [Bool.or_eq_true, decide_eq_true_iff, decide_eq_true_iff]
    by_cases e : k = i
    · exact Or.inl e
    · exact Or.inr (h3 k hk e)
theorem red_all {m : List (List Int)} {n : Nat} (h : ∀ r ∈ m, LA.VokB n r) : allN (redB m) m.length = true ↔ LA.RedL n m := by
  rw [← LA.redAt_iff h, allN_iff]
  exact ⟨fun g i hi => redB_iff.1 (g i hi), fun g i hi => redB_iff.2 (g i hi)⟩

def S_impl_powMod : Sum := { fid := 312, dom := [(.int 3), (.int 3), (.int 3)], cod := [(.int 3)], dp := true, fz := false, pre := fun x => powP x.1 x.2.1 x.2.2.1, g := fun x => ((powD x.1 x.2.1 x.2.2.1), ()) }
def S_impl_powMod_tab : List (Nat × Sum) := []
theorem S_impl_powMod_ok : FnOK Try.prog 312 S_impl_powMod := by
 refine at_enter 26 (fun x => ⟨[(0, aI x.1), (1, aI x.2.1), (2, aI x.2.2.1)], []⟩) Try.func312 rfl (by kernel_rfl) (fun x => rfl) ?_
 rintro w0 Z0 ⟨x0, x1, x2, u⟩ a w
 revert x0 x1 x2
 intro (x0 : Int) (x1 : Int) (x2 : Int) hpre hlens h
 replace h : At w0 Z0 [] 26 ⟨[(0, aI x0), (1, aI x1), (2, aI x2)], []⟩ a w := h
 replace hpre : powP x0 x1 x2 := hpre
 have hT : TabOK Try.prog S_impl_powMod_tab := .nil
 have hp : (0 ≤ x0 ∧ x0 < x2) ∧ (0 ≤ x1 ∧ x1 ≤ 4611686018427387904) ∧ 1 < x2 ∧ x2 ≤ 1048576 := hpre
 refine wp_seq ?_
 refine at_regq [] { ts := [0, 1, 2, 6], os := [] } [] gamOK hT h (by kernel_rfl) trivial fun a w h => then_normal (wp_seq ?_)
 refine at_regq [] { ts := [0, 1, 2, 6, 7], os := [] } [] gamOK hT h (by kernel_rfl) trivial fun a w h => then_normal (wp_seq (wp_block ?_))
 replace h := at_out (σ' := ⟨[(0, aI x0), (1, aI x1), (2, aI x2), (6, aI 0), (7, aI 1)], []⟩) { ts := [0, 1, 2, 6, 7], os := [] } h (by kernel_rfl)
 refine at_loop (fun q : (Int × Int × Nat) => (⟨[(0, aI q.2.1), (1, aI ((q.2.2 : Nat) : Int)), (2, aI x2), (6, aI 0), (7, aI q.1)], []⟩ : St)) (fun q => powOK x0 x1 x2 q) (fun q => q.2.2) ((1, x0, x1.toNat)) h (st_congr3 (fun (d0 : Int) (d1 : Int) (d2 : Int) => (⟨[(0, aI d1), (1, aI d2), (2, aI x2), (6, aI 0), (7, aI d0)], []⟩ : St)) (show (1 : Int) = ((1, x0, x1.toNat)).1 from by first | with_reducible rfl | (show x1 = ((x1.toNat : Nat) : Int); omega) | rfl) (show (x0 : Int) = ((1, x0, x1.toNat)).2.1 from by first | with_reducible rfl | (show x1 = ((x1.toNat : Nat) : Int); omega) | rfl) (show (x1 : Int) = ((((1, x0, x1.toNat)).2.2 : Nat) : Int) from by first | with_reducible rfl | (show x1 = ((x1.toNat : Nat) : Int); omega) | rfl)) (by exact ⟨rfl, ⟨(show (0 : Int) ≤ 1 by decide), by dsimp only; omega⟩, ⟨by dsimp only; omega, by dsimp only; omega⟩, by dsimp only; omega⟩) ?_
 intro q a w hok0 h
 have hq := hok0.2
 refine wp_seq (wp_seq ?_)
 refine at_regq [] { ts := [0, 1, 2, 6, 7, 9], os := [] } [] gamOK hT h (by kernel_rfl) trivial fun a w h => then_normal ?_
 refine at_test (decide (((q.2.2 : Nat) : Int) > 0)) h (by kernel_rfl) (fun h1 => ?_) (fun h1 => ?_)
 ·replace h1 : ((q.2.2 : Nat) : Int) > 0 := of_decide_eq_true h1
  refine wp_skip (then_normal (wp_seq (wp_block (wp_seq (wp_seq ?_)))))
  refine at_regq [{}, { hint := some (aI ((q.2.2 % 2 : Nat) : Int)) }] { ts := [0, 1, 2, 6, 7, 14], os := [] } [(AV.p (.c (.v (.int .i64 (IntKind.i64.wrap ((BitVec.ofInt (IntKind.i64).bits ((q.2.2 : Nat) : Int) &&& BitVec.ofInt (IntKind.i64).bits 1).toNat : Int))))) = AV.p (.c (.v (.int .i64 (((q.2.2 % 2 : Nat) : Int))))))] gamOK hT h (by kernel_rfl) ⟨hint_int (by exact and1 (by omega)), trivial⟩ fun a w h => then_normal ?_
  refine at_test (decide (((q.2.2 % 2 : Nat) : Int) = 1)) h (by kernel_rfl) (fun h2 => ?_) (fun h2 => ?_)
  ·replace h2 : ((q.2.2 % 2 : Nat) : Int) = 1 := of_decide_eq_true h2
   refine at_regq [{}, {}, { nw := true }] { ts := [0, 1, 2, 6, 7], os := [] } [I64 (q.1 * q.2.1), (x2 : Int) ≠ 0] gamOK hT h (by kernel_rfl) ⟨⟨by (have hA0 := mul_f q.1 q.2.1; first | omega | (simp only [lsA]; omega) | (simp <;> omega)), by (have hA0 := mul_f q.1 q.2.1; first | omega | (simp only [lsA]; omega) | (simp <;> omega))⟩, (by first | omega | (simp only [lsA]; omega) | (simp <;> omega)), trivial⟩ fun a w h => then_normal ?_
   refine at_regq [{}, {}, { nw := true }] { ts := [0, 1, 2, 6, 7], os := [] } [I64 (q.2.1 * q.2.1), (x2 : Int) ≠ 0] gamOK hT h (by kernel_rfl) ⟨⟨by (have hA0 := mul_f q.2.1 q.2.1; first | omega | (simp only [lsA]; omega) | (simp <;> omega)), by (have hA0 := mul_f q.2.1 q.2.1; first | omega | (simp only [lsA]; omega) | (simp <;> omega))⟩, (by first | omega | (simp only [lsA]; omega) | (simp <;> omega)), trivial⟩ fun a w h => in_normal (then_normal ?_)
   refine at_regq [{}, { hint := some (aI ((q.2.2 / 2 : Nat) : Int)) }] { ts := [0, 1, 2, 6, 7], os := [] } [(0 : Int) ≤ 1, (AV.p (.c (.v (.int .i64 ((Int.fdiv ((q.2.2 : Nat) : Int) (2 ^ (min (1 : Int).toNat (IntKind.i64).bits))))))) = AV.p (.c (.v (.int .i64 (((q.2.2 / 2 : Nat) : Int))))))] gamOK hT h (by kernel_rfl) ⟨(by first | omega | (simp only [lsA]; omega) | (simp <;> omega)), hint_int (by exact shr1), trivial⟩ fun a w h => ?_
   replace h := at_out (σ' := ⟨[(0, aI (Int.tmod (q.2.1 * q.2.1) x2)), (1, aI ((q.2.2 / 2 : Nat) : Int)), (2, aI x2), (6, aI 0), (7, aI (Int.tmod (q.1 * q.2.1) x2))], []⟩) { ts := [0, 1, 2, 6, 7], os := [] } h (by kernel_rfl)
   exact ⟨((q.1 * q.2.1).tmod x2, (q.2.1 * q.2.1).tmod x2, q.2.2 / 2), at_eq h (st_congr3 (fun (d0 : Int) (d1 : Int) (d2 : Int) => (⟨[(0, aI d1), (1, aI d2), (2, aI x2), (6, aI 0), (7, aI d0)], []⟩ : St)) (show ((Int.tmod (q.1 * q.2.1) x2) : Int) = (((q.1 * q.2.1).tmod x2, (q.2.1 * q.2.1).tmod x2, q.2.2 / 2)).1 from by first | with_reducible rfl | (rfl) | rfl) (show ((Int.tmod (q.2.1 * q.2.1) x2) : Int) = (((q.1 * q.2.1).tmod x2, (q.2.1 * q.2.1).tmod x2, q.2.2 / 2)).2.1 from by first | with_reducible rfl | (rfl) | rfl) (show (((q.2.2 / 2 : Nat) : Int) : Int) = (((((q.1 * q.2.1).tmod x2, (q.2.1 * q.2.1).tmod x2, q.2.2 / 2)).2.2 : Nat) : Int) from by first | with_reducible rfl | (rfl) | rfl)), (by first | exact powOK_odd hok0 (by omega) (by omega) | exact powOK_even hok0 (by omega) (by omega) (by omega)), (by dsimp only; omega)⟩
  ·replace h2 : ¬ (((q.2.2 % 2 : Nat) : Int) = 1) := of_decide_eq_false h2
   refine wp_skip (then_normal ?_)
   refine at_regq [{}, {}, { nw := true }] { ts := [0, 1, 2, 6, 7], os := [] } [I64 (q.2.1 * q.2.1), (x2 : Int) ≠ 0] gamOK hT h (by kernel_rfl) ⟨⟨by (have hA0 := mul_f q.2.1 q.2.1; first | omega | (simp only [lsA]; omega) | (simp <;> omega)), by (have hA0 := mul_f q.2.1 q.2.1; first | omega | (simp only [lsA]; omega) | (simp <;> omega))⟩, (by first | omega | (simp only [lsA]; omega) | (simp <;> omega)), trivial⟩ fun a w h => in_normal (then_normal ?_)
   refine at_regq [{}, { hint := some (aI ((q.2.2 / 2 : Nat) : Int)) }] { ts := [0, 1, 2, 6, 7], os := [] } [(0 : Int) ≤ 1, (AV.p (.c (.v (.int .i64 ((Int.fdiv ((q.2.2 : Nat) : Int) (2 ^ (min (1 : Int).toNat (IntKind.i64).bits))))))) = AV.p (.c (.v (.int .i64 (((q.2.2 / 2 : Nat) : Int))))))] gamOK hT h (by kernel_rfl) ⟨(by first | omega | (simp only [lsA]; omega) | (simp <;> omega)), hint_int (by exact shr1), trivial⟩ fun a w h => ?_
   replace h := at_out (σ' := ⟨[(0, aI (Int.tmod (q.2.1 * q.2.1) x2)), (1, aI ((q.2.2 / 2 : Nat) : Int)), (2, aI x2), (6, aI 0), (7, aI q.1)], []⟩) { ts := [0, 1, 2, 6, 7], os := [] } h (by kernel_rfl)
   exact ⟨(q.1, (q.2.1 * q.2.1).tmod x2, q.2.2 / 2), at_eq h (st_congr3 (fun (d0 : Int) (d1 : Int) (d2 : Int) => (⟨[(0, aI d1), (1, aI d2), (2, aI x2), (6, aI 0), (7, aI d0)], []⟩ : St)) (show (q.1 : Int) = ((q.1, (q.2.1 * q.2.1).tmod x2, q.2.2 / 2)).1 from by first | with_reducible rfl | (rfl) | rfl) (show ((Int.tmod (q.2.1 * q.2.1) x2) : Int) = ((q.1, (q.2.1 * q.2.1).tmod x2, q.2.2 / 2)).2.1 from by first | with_reducible rfl | (rfl) | rfl) (show (((q.2.2 / 2 : Nat) : Int) : Int) = ((((q.1, (q.2.1 * q.2.1).tmod x2, q.2.2 / 2)).2.2 : Nat) : Int) from by first | with_reducible rfl | (rfl) | rfl)), (by first | exact powOK_odd hok0 (by omega) (by omega) | exact powOK_even hok0 (by omega) (by omega) (by omega)), (by dsimp only; omega)⟩
 ·replace h1 : ¬ (((q.2.2 : Nat) : Int) > 0) := of_decide_eq_false h1
  refine wp_exit (then_exit (then_exit (in_hit (then_normal (wp_seq ?_)))))
  refine at_regq [] { ts := [6], os := [] } [] gamOK hT h (by kernel_rfl) trivial fun a w h => then_normal (wp_ret ?_)
  exact at_return (S := S_impl_powMod) (x := (x0, x1, x2, ())) (q.1, ()) [] h (by kernel_rfl) trivial (congrArg (fun z => (z, ())) (show (q.1) = powD x0 x1 x2 from by (have e := hok0.1; rw [show q.2.2 = 0 by omega, LA.pmL_zero] at e; exact e)))

def S_spec_l4Pow : Sum := { fid := 308, dom := [(.int 3), (.int 3), (.int 3)], cod := [(.int 3)], dp := true, fz := false, pre := fun x => powP x.1 x.2.1 x.2.2.1, g := fun x => ((powD x.1 x.2.1 x.2.2.1), ()) }
def S_spec_l4Pow_tab : List (Nat × Sum) := []
theorem S_spec_l4Pow_ok : FnOK Try.prog 308 S_spec_l4Pow := by
 refine at_enter 26 (fun x => ⟨[(0, aI x.1), (1, aI x.2.1), (2, aI x.2.2.1)], []⟩) Try.func308 rfl (by kernel_rfl) (fun x => rfl) ?_
 rintro w0 Z0 ⟨x0, x1, x2, u⟩ a w
 revert x0 x1 x2
 intro (x0 : Int) (x1 : Int) (x2 : Int) hpre hlens h
 replace h : At w0 Z0 [] 26 ⟨[(0, aI x0), (1, aI x1), (2, aI x2)], []⟩ a w := h
 replace hpre : powP x0 x1 x2 := hpre
 have hT : TabOK Try.prog S_spec_l4Pow_tab := .nil
 have hp : (0 ≤ x0 ∧ x0 < x2) ∧ (0 ≤ x1 ∧ x1 ≤ 4611686018427387904) ∧ 1 < x2 ∧ x2 ≤ 1048576 := hpre
 refine wp_seq ?_
 refine at_regq [] { ts := [0, 1, 2, 6], os := [] } [] gamOK hT h (by kernel_rfl) trivial fun a w h => then_normal (wp_seq ?_)
 refine at_regq [] { ts := [0, 1, 2, 6, 7], os := [] } [] gamOK hT h (by kernel_rfl) trivial fun a w h => then_normal (wp_seq (wp_block ?_))
 replace h := at_out (σ' := ⟨[(0, aI x0), (1, aI x1), (2, aI x2), (6, aI 0), (7, aI 1)], []⟩) { ts := [0, 1, 2, 6, 7], os := [] } h (by kernel_rfl)
 refine at_loop (fun q : (Int × Int × Nat) => (⟨[(0, aI q.2.1), (1, aI ((q.2.2 : Nat) : Int)), (2, aI x2), (6, aI 0), (7, aI q.1)], []⟩ : St)) (fun q => powOK x0 x1 x2 q) (fun q => q.2.2) ((1, x0, x1.toNat)) h (st_congr3 (fun (d0 : Int) (d1 : Int) (d2 : Int) => (⟨[(0, aI d1), (1, aI d2), (2, aI x2), (6, aI 0), (7, aI d0)], []⟩ : St)) (show (1 : Int) = ((1, x0, x1.toNat)).1 from by first | with_reducible rfl | (show x1 = ((x1.toNat : Nat) : Int); omega) | rfl) (show (x0 : Int) = ((1, x0, x1.toNat)).2.1 from by first | with_reducible rfl | (show x1 = ((x1.toNat : Nat) : Int); omega) | rfl) (show (x1 : Int) = ((((1, x0, x1.toNat)).2.2 : Nat) : Int) from by first | with_reducible rfl | (show x1 = ((x1.toNat : Nat) : Int); omega) | rfl)) (by exact ⟨rfl, ⟨(show (0 : Int) ≤ 1 by decide), by dsimp only; omega⟩, ⟨by dsimp only; omega, by dsimp only; omega⟩, by dsimp only; omega⟩) ?_
 intro q a w hok0 h
 have hq := hok0.2
 refine wp_seq (wp_seq ?_)
 refine at_regq [] { ts := [0, 1, 2, 6, 7, 9], os := [] } [] gamOK hT h (by kernel_rfl) trivial fun a w h => then_normal ?_
 refine at_test (decide (((q.2.2 : Nat) : Int) > 0)) h (by kernel_rfl) (fun h1 => ?_) (fun h1 => ?_)
 ·replace h1 : ((q.2.2 : Nat) : Int) > 0 := of_decide_eq_true h1
  refine wp_skip (then_normal (wp_block (wp_seq (wp_seq ?_))))
  refine at_regq [{}, { hint := some (aI ((q.2.2 % 2 : Nat) : Int)) }] { ts := [0, 1, 2, 6, 7, 12], os := [] } [(AV.p (.c (.v (.int .i64 (IntKind.i64.wrap ((BitVec.ofInt (IntKind.i64).bits ((q.2.2 : Nat) : Int) &&& BitVec.ofInt (IntKind.i64).bits 1).toNat : Int))))) = AV.p (.c (.v (.int .i64 (((q.2.2 % 2 : Nat) : Int))))))] gamOK hT h (by kernel_rfl) ⟨hint_int (by exact and1 (by omega)), trivial⟩ fun a w h => then_normal ?_
  refine at_test (decide (((q.2.2 % 2 : Nat) : Int) = 1)) h (by kernel_rfl) (fun h2 => ?_) (fun h2 => ?_)
  ·replace h2 : ((q.2.2 % 2 : Nat) : Int) = 1 := of_decide_eq_true h2
   refine at_regq [{}, {}, { nw := true }] { ts := [0, 1, 2, 6, 7], os := [] } [I64 (q.1 * q.2.1), (x2 : Int) ≠ 0] gamOK hT h (by kernel_rfl) ⟨⟨by (have hA0 := mul_f q.1 q.2.1; first | omega | (simp only [lsA]; omega) | (simp <;> omega)), by (have hA0 := mul_f q.1 q.2.1; first | omega | (simp only [lsA]; omega) | (simp <;> omega))⟩, (by first | omega | (simp only [lsA]; omega) | (simp <;> omega)), trivial⟩ fun a w h => then_normal (wp_seq ?_)
   refine at_regq [{}, {}, { nw := true }] { ts := [0, 1, 2, 6, 7], os := [] } [I64 (q.2.1 * q.2.1), (x2 : Int) ≠ 0] gamOK hT h (by kernel_rfl) ⟨⟨by (have hA0 := mul_f q.2.1 q.2.1; first | omega | (simp only [lsA]; omega) | (simp <;> omega)), by (have hA0 := mul_f q.2.1 q.2.1; first | omega | (simp only [lsA]; omega) | (simp <;> omega))⟩, (by first | omega | (simp only [lsA]; omega) | (simp <;> omega)), trivial⟩ fun a w h => then_normal ?_
   refine at_regq [{}, { hint := some (aI ((q.2.2 / 2 : Nat) : Int)) }] { ts := [0, 1, 2, 6, 7], os := [] } [(0 : Int) ≤ 1, (AV.p (.c (.v (.int .i64 ((Int.fdiv ((q.2.2 : Nat) : Int) (2 ^ (min (1 : Int).toNat (IntKind.i64).bits))))))) = AV.p (.c (.v (.int .i64 (((q.2.2 / 2 : Nat) : Int))))))] gamOK hT h (by kernel_rfl) ⟨(by first | omega | (simp only [lsA]; omega) | (simp <;> omega)), hint_int (by exact shr1), trivial⟩ fun a w h => in_normal ?_
   replace h := at_out (σ' := ⟨[(0, aI (Int.tmod (q.2.1 * q.2.1) x2)), (1, aI ((q.2.2 / 2 : Nat) : Int)), (2, aI x2), (6, aI 0), (7, aI (Int.tmod (q.1 * q.2.1) x2))], []⟩) { ts := [0, 1, 2, 6, 7], os := [] } h (by kernel_rfl)
   exact ⟨((q.1 * q.2.1).tmod x2, (q.2.1 * q.2.1).tmod x2, q.2.2 / 2), at_eq h (st_congr3 (fun (d0 : Int) (d1 : Int) (d2 : Int) => (⟨[(0, aI d1), (1, aI d2), (2, aI x2), (6, aI 0), (7, aI d0)], []⟩ : St)) (show ((Int.tmod (q.1 * q.2.1) x2) : Int) = (((q.1 * q.2.1).tmod x2, (q.2.1 * q.2.1).tmod x2, q.2.2 / 2)).1 from by first | with_reducible rfl | (rfl) | rfl) (show ((Int.tmod (q.2.1 * q.2.1) x2) : Int) = (((q.1 * q.2.1).tmod x2, (q.2.1 * q.2.1).tmod x2, q.2.2 / 2)).2.1 from by first | with_reducible rfl | (rfl) | rfl) (show (((q.2.2 / 2 : Nat) : Int) : Int) = (((((q.1 * q.2.1).tmod x2, (q.2.1 * q.2.1).tmod x2, q.2.2 / 2)).2.2 : Nat) : Int) from by first | with_reducible rfl | (rfl) | rfl)), (by first | exact powOK_odd hok0 (by omega) (by omega) | exact powOK_even hok0 (by omega) (by omega) (by omega)), (by dsimp only; omega)⟩
  ·replace h2 : ¬ (((q.2.2 % 2 : Nat) : Int) = 1) := of_decide_eq_false h2
   refine wp_skip (then_normal (wp_seq ?_))
   refine at_regq [{}, {}, { nw := true }] { ts := [0, 1, 2, 6, 7], os := [] } [I64 (q.2.1 * q.2.1), (x2 : Int) ≠ 0] gamOK hT h (by kernel_rfl) ⟨⟨by (have hA0 := mul_f q.2.1 q.2.1; first | omega | (simp only [lsA]; omega) | (simp <;> omega)), by (have hA0 := mul_f q.2.1 q.2.1; first | omega | (simp only [lsA]; omega) | (simp <;> omega))⟩, (by first | omega | (simp only [lsA]; omega) | (simp <;> omega)), trivial⟩ fun a w h => then_normal ?_
   refine at_regq [{}, { hint := some (aI ((q.2.2 / 2 : Nat) : Int)) }] { ts := [0, 1, 2, 6, 7], os := [] } [(0 : Int) ≤ 1, (AV.p (.c (.v (.int .i64 ((Int.fdiv ((q.2.2 : Nat) : Int) (2 ^ (min (1 : Int).toNat (IntKind.i64).bits))))))) = AV.p (.c (.v (.int .i64 (((q.2.2 / 2 : Nat) : Int))))))] gamOK hT h (by kernel_rfl) ⟨(by first | omega | (simp only [lsA]; omega) | (simp <;> omega)), hint_int (by exact shr1), trivial⟩ fun a w h => in_normal ?_
   replace h := at_out (σ' := ⟨[(0, aI (Int.tmod (q.2.1 * q.2.1) x2)), (1, aI ((q.2.2 / 2 : Nat) : Int)), (2, aI x2), (6, aI 0), (7, aI q.1)], []⟩) { ts := [0, 1, 2, 6, 7], os := [] } h (by kernel_rfl)
   exact ⟨(q.1, (q.2.1 * q.2.1).tmod x2, q.2.2 / 2), at_eq h (st_congr3 (fun (d0 : Int) (d1 : Int) (d2 : Int) => (⟨[(0, aI d1), (1, aI d2), (2, aI x2), (6, aI 0), (7, aI d0)], []⟩ : St)) (show (q.1 : Int) = ((q.1, (q.2.1 * q.2.1).tmod x2, q.2.2 / 2)).1 from by first | with_reducible rfl | (rfl) | rfl) (show ((Int.tmod (q.2.1 * q.2.1) x2) : Int) = ((q.1, (q.2.1 * q.2.1).tmod x2, q.2.2 / 2)).2.1 from by first | with_reducible rfl | (rfl) | rfl) (show (((q.2.2 / 2 : Nat) : Int) : Int) = ((((q.1, (q.2.1 * q.2.1).tmod x2, q.2.2 / 2)).2.2 : Nat) : Int) from by first | with_reducible rfl | (rfl) | rfl)), (by first | exact powOK_odd hok0 (by omega) (by omega) | exact powOK_even hok0 (by omega) (by omega) (by omega)), (by dsimp only; omega)⟩
 ·replace h1 : ¬ (((q.2.2 : Nat) : Int) > 0) := of_decide_eq_false h1
  refine wp_exit (then_exit (then_exit (in_hit (then_normal (wp_seq ?_)))))
  refine at_regq [] { ts := [6], os := [] } [] gamOK hT h (by kernel_rfl) trivial fun a w h => then_normal (wp_ret ?_)
  exact at_return (S := S_spec_l4Pow) (x := (x0, x1, x2, ())) (q.1, ()) [] h (by kernel_rfl) trivial (congrArg (fun z => (z, ())) (show (q.1) = powD x0 x1 x2 from by (have e := hok0.1; rw [show q.2.2 = 0 by omega, LA.pmL_zero] at e; exact e)))

def powF (x0 : Int) (x1 : Int) : Int := (if (isEl x0) = true then (if (inR x1 0 1000000000000) = true then (powD x0 x1 1019) else 0) else 0)
def S_impl_PowField : Sum := { fid := 319, dom := [(.int 3), (.int 3)], cod := [(.int 3)], dp := true, fz := false, pre := fun x => True, g := fun x => ((powF x.1 x.2.1), ()) }
def S_impl_PowField_tab : List (Nat × Sum) := [(305, S_impl_IsElement), (107, S_impl_InRange), (312, S_impl_powMod)]
theorem S_impl_PowField_ok : FnOK Try.prog 319 S_impl_PowField := by
 refine at_enter 16 (fun x => ⟨[(0, aI x.1), (1, aI x.2.1)], []⟩) Try.func319 rfl (by kernel_rfl) (fun x => rfl) ?_
 rintro w0 Z0 ⟨x0, x1, u⟩ a w
 revert x0 x1
 intro (x0 : Int) (x1 : Int) hpre hlens h
 replace h : At w0 Z0 [] 16 ⟨[(0, aI x0), (1, aI x1)], []⟩ a w := h
 have hT : TabOK Try.prog S_impl_PowField_tab := (.cons S_impl_IsElement_ok (.cons S_impl_InRange_ok (.cons S_impl_powMod_ok .nil)))
 refine wp_seq ?_
 refine at_regq [] { ts := [0, 1, 4], os := [] } [] gamOK hT h (by kernel_rfl) trivial fun a w h => then_normal (wp_seq (wp_seq ?_))
 rcases Bool.eq_false_or_eq_true (!(isEl x0)) with h1 | h1
 ·have hzh1 : (isEl x0) = false := notT h1
  refine at_regq [{}, {}, { hint := some (aB true) }] { ts := [0, 1, 4, 12], os := [] } [True, (AV.p (.c (.v (.bool (!(isEl x0))))) = AV.p (.c (.v (.bool true))))] gamOK hT h (by kernel_rfl) ⟨trivial, hint_bool (h1), trivial⟩ fun a w h => then_normal ?_
  refine at_test true h (by kernel_rfl) (fun hh => ?_) (fun hh => nomatch hh)
  refine wp_seq ?_
  refine at_regq [] { ts := [0, 1, 4], os := [] } [] gamOK hT h (by kernel_rfl) trivial fun a w h => then_normal (wp_ret (then_ret ?_))
  exact at_return (S := S_impl_PowField) (x := (x0, x1, ())) (0, ()) [] h (by kernel_rfl) trivial (congrArg (fun z => (z, ())) (show (0) = powF x0 x1 from by first | rfl | (unfold powF; rw [if_neg (neT (notT h1))])))
 ·have hzh1 : (isEl x0) = true := notF h1
  have hvh1 := isEl_t (notF h1)
  refine at_regq [{}, {}, { hint := some (aB false) }] { ts := [0, 1, 4, 12], os := [] } [True, (AV.p (.c (.v (.bool (!(isEl x0))))) = AV.p (.c (.v (.bool false)))), True] gamOK hT h (by kernel_rfl) ⟨trivial, hint_bool (h1), trivial, trivial⟩ fun a w h => then_normal ?_
  refine at_test (!(inR x1 0 1000000000000)) h (by kernel_rfl) (fun h2 => ?_) (fun h2 => ?_)
  ·replace h2 : (inR x1 0 1000000000000) = false := notT h2
   have hvh2 := inR_f h2
   refine wp_seq ?_
   refine at_regq [] { ts := [0, 1, 4], os := [] } [] gamOK hT h (by kernel_rfl) trivial fun a w h => then_normal (wp_ret (then_ret ?_))
   exact at_return (S := S_impl_PowField) (x := (x0, x1, ())) (0, ()) [] h (by kernel_rfl) trivial (congrArg (fun z => (z, ())) (show (0) = powF x0 x1 from by first | rfl | (unfold powF; rw [if_pos (notF h1), if_neg (neT h2)])))
  ·replace h2 : (inR x1 0 1000000000000) = true := notF h2
   have hvh2 := inR_t h2
   refine wp_skip (then_normal (wp_seq ?_))
   refine at_regq [] { ts := [4], os := [] } [powP x0 x1 1019] gamOK hT h (by kernel_rfl) ⟨(by (show _ ∧ _; refine ⟨⟨?_, ?_⟩, ⟨?_, ?_⟩, ?_, ?_⟩ <;> omega)), trivial⟩ fun a w h => then_normal (wp_ret ?_)
   exact at_return (S := S_impl_PowField) (x := (x0, x1, ())) ((powD x0 x1 1019), ()) [] h (by kernel_rfl) trivial (congrArg (fun z => (z, ())) (show ((powD x0 x1 1019)) = powF x0 x1 from by first | rfl | (unfold powF; rw [if_pos (notF h1), if_pos h2])))

def S_impl_InverseField : Sum := { fid := 285, dom := [(.int 3)], cod := [(.int 3)], dp := true, fz := false, pre := fun x => True, g := fun x => ((invF x.1), ()) }
def S_impl_InverseField_tab : List (Nat × Sum) := [(319, S_impl_PowField)]
theorem S_impl_InverseField_ok : FnOK Try.prog 285 S_impl_InverseField := by
 refine at_enter 5 (fun x => ⟨[(0, aI x.1)], []⟩) Try.func285 rfl (by kernel_rfl) (fun x => rfl) ?_
 rintro w0 Z0 ⟨x0, u⟩ a w
 revert x0
 intro (x0 : Int) hpre hlens h
 replace h : At w0 Z0 [] 5 ⟨[(0, aI x0)], []⟩ a w := h
 have hT : TabOK Try.prog S_impl_InverseField_tab := (.cons S_impl_PowField_ok .nil)
 refine wp_seq ?_
 refine at_regq [] { ts := [0, 2], os := [] } [] gamOK hT h (by kernel_rfl) trivial fun a w h => then_normal (wp_seq ?_)
 refine at_regq [] { ts := [2], os := [] } [True] gamOK hT h (by kernel_rfl) ⟨trivial, trivial⟩ fun a w h => then_normal (wp_ret ?_)
 exact at_return (S := S_impl_InverseField) (x := (x0, ())) ((powF x0 1017), ()) [] h (by kernel_rfl) trivial (congrArg (fun z => (z, ())) (show ((powF x0 1017)) = invF x0 from by (unfold invF powF LA.invS powD; rfl)))

def S_spec_InverseField : Sum := { fid := 292, dom := [(.int 3)], cod := [(.int 3)], dp := true, fz := false, pre := fun x => True, g := fun x => ((invF x.1), ()) }
def S_spec_InverseField_tab : List (Nat × Sum) := [(288, S_spec_IsElement), (308, S_spec_l4Pow)]
theorem S_spec_InverseField_ok : FnOK Try.prog 292 S_spec_InverseField := by
 refine at_enter 12 (fun x => ⟨[(0, aI x.1)], []⟩) Try.func292 rfl (by kernel_rfl) (fun x => rfl) ?_
 rintro w0 Z0 ⟨x0, u⟩ a w
 revert x0
 intro (x0 : Int) hpre hlens h
 replace h : At w0 Z0 [] 12 ⟨[(0, aI x0)], []⟩ a w := h
 have hT : TabOK Try.prog S_spec_InverseField_tab := (.cons S_spec_IsElement_ok (.cons S_spec_l4Pow_ok .nil))
 refine wp_seq ?_
 refine at_regq [] { ts := [0, 2], os := [] } [] gamOK hT h (by kernel_rfl) trivial fun a w h => then_normal (wp_seq (wp_seq ?_))
 rcases Bool.eq_false_or_eq_true (!(isEl x0)) with h1 | h1
 ·have hzh1 : (isEl x0) = false := notT h1
  refine at_regq [{}, {}, { hint := some (aB true) }] { ts := [0, 2, 9], os := [] } [True, (AV.p (.c (.v (.bool (!(isEl x0))))) = AV.p (.c (.v (.bool true))))] gamOK hT h (by kernel_rfl) ⟨trivial, hint_bool (h1), trivial⟩ fun a w h => then_normal ?_
  refine at_test true h (by kernel_rfl) (fun hh => ?_) (fun hh => nomatch hh)
  refine wp_seq ?_
  refine at_regq [] { ts := [0, 2], os := [] } [] gamOK hT h (by kernel_rfl) trivial fun a w h => then_normal (wp_ret (then_ret ?_))
  exact at_return (S := S_spec_InverseField) (x := (x0, ())) (0, ()) [] h (by kernel_rfl) trivial (congrArg (fun z => (z, ())) (show (0) = invF x0 from by (unfold invF; first | (rw [if_pos (show isEl x0 = true by first | assumption | simpa using h1)]; first | rfl | (rw [show x0 = 0 by assumption, invS_zero])) | (rw [if_neg (by simp_all)]))))
 ·have hzh1 : (isEl x0) = true := notF h1
  have hvh1 := isEl_t (notF h1)
  refine at_regq [{}, {}, { hint := some (aB false) }] { ts := [0, 2, 9], os := [] } [True, (AV.p (.c (.v (.bool (!(isEl x0))))) = AV.p (.c (.v (.bool false))))] gamOK hT h (by kernel_rfl) ⟨trivial, hint_bool (h1), trivial⟩ fun a w h => then_normal ?_
  refine at_test (decide (x0 = 0)) h (by kernel_rfl) (fun h2 => ?_) (fun h2 => ?_)
  ·replace h2 : x0 = 0 := of_decide_eq_true h2
   refine wp_seq ?_
   refine at_regq [] { ts := [0, 2], os := [] } [] gamOK hT h (by kernel_rfl) trivial fun a w h => then_normal (wp_ret (then_ret ?_))
   exact at_return (S := S_spec_InverseField) (x := (x0, ())) (0, ()) [] h (by kernel_rfl) trivial (congrArg (fun z => (z, ())) (show (0) = invF x0 from by (unfold invF; first | (rw [if_pos (show isEl x0 = true by first | assumption | simpa using h1)]; first | rfl | (rw [show x0 = 0 by assumption, invS_zero])) | (rw [if_neg (by simp_all)]))))
  ·replace h2 : ¬ (x0 = 0) := of_decide_eq_false h2
   refine wp_skip (then_normal (wp_seq ?_))
   refine at_regq [] { ts := [2], os := [] } [powP x0 1017 1019] gamOK hT h (by kernel_rfl) ⟨(by (show _ ∧ _; refine ⟨⟨?_, ?_⟩, ⟨?_, ?_⟩, ?_, ?_⟩ <;> omega)), trivial⟩ fun a w h => then_normal (wp_ret ?_)
   exact at_return (S := S_spec_InverseField) (x := (x0, ())) ((powD x0 1017 1019), ()) [] h (by kernel_rfl) trivial (congrArg (fun z => (z, ())) (show ((powD x0 1017 1019)) = invF x0 from by (unfold invF; first | (rw [if_pos (show isEl x0 = true by first | assumption | simpa using h1)]; first | rfl | (rw [show x0 = 0 by assumption, invS_zero])) | (rw [if_neg (by simp_all)]))))

def validV (x0 : (List Int)) : Bool := (if (List.all x0 isEl) = true then decide (((List.length x0 : Nat) : Int) ≤ 40) else false)
abbrev Q_impl_IsValidVector := (fun (x0 : (List Int)) => Sh.fit s22 x0)
def S_impl_IsValidVector : Sum := { fid := 253, dom := [s22], cod := [(.bool 4)], dp := true, fz := false, pre := fun x => Q_impl_IsValidVector x.1, g := fun x => ((validV x.1), ()) }
def S_impl_IsValidVector_tab : List (Nat × Sum) := [(305, S_impl_IsElement)]
theorem S_impl_IsValidVector_ok : FnOK Try.prog 253 S_impl_IsValidVector := by
 refine at_enter 18 (fun x => ⟨[(0, aF (.int 3) x.1)], []⟩) Try.func253 rfl (by kernel_rfl) (fun x => rfl) ?_
 rintro w0 Z0 ⟨x0, u⟩ a w
 revert x0
 intro (x0 : (List Int)) hpre hlens h
 replace h : At w0 Z0 [] 18 ⟨[(0, aF (.int 3) x0)], []⟩ a w := h
 replace hpre : Q_impl_IsValidVector x0 := hpre
 have hl1 : List.length x0 ≤ 9223372036854775807 := hlens.1.1
 have hT : TabOK Try.prog S_impl_IsValidVector_tab := (.cons S_impl_IsElement_ok .nil)
 have hf0 : Sh.fit s22 x0 := hpre
 have hn0_1 : List.length x0 ≤ 1073741824 := hf0.1
 refine wp_seq ?_
 refine at_regq [] { ts := [0, 2], os := [] } [] gamOK hT h (by kernel_rfl) trivial fun a w h => then_normal (wp_seq (wp_seq ?_))
 refine at_regq [] { ts := [0, 2, 5, 6, 7], os := [] } [] gamOK hT h (by kernel_rfl) trivial fun a w h => then_normal (wp_block ?_)
 replace h := at_out (σ' := ⟨[(0, aF (.int 3) x0), (2, aB false), (5, aF (.int 3) x0), (6, aI ((List.length x0 : Nat) : Int)), (7, aI 0)], []⟩) { ts := [0, 2, 5, 6, 7], os := [] } h (by kernel_rfl)
 refine at_loop (fun i : Nat => (⟨[(0, aF (.int 3) x0), (2, aB false), (5, aF (.int 3) x0), (6, aI ((List.length x0 : Nat) : Int)), (7, aI ((i : Nat) : Int))], []⟩ : St)) (fun i => (i ≤ List.length x0 ∧ allTo1 isEl x0 0 i)) (fun i => List.length x0 - i) (0) h (st_congr1 (fun (d0 : Int) => (⟨[(0, aF (.int 3) x0), (2, aB false), (5, aF (.int 3) x0), (6, aI ((List.length x0 : Nat) : Int)), (7, aI d0)], []⟩ : St)) (show (0 : Int) = (((0) : Nat) : Int) from by first | with_reducible rfl | (rfl) | rfl)) (by exact ⟨Nat.zero_le _, allTo1_zero⟩) ?_
 intro i a w hok0 h
 refine wp_seq ?_
 refine at_regq [] { ts := [0, 2, 5, 6, 7, 8], os := [] } [] gamOK hT h (by kernel_rfl) trivial fun a w h => then_normal (wp_seq ?_)
 refine at_test (decide (((i : Nat) : Int) < ((List.length x0 : Nat) : Int))) h (by kernel_rfl) (fun h1 => ?_) (fun h1 => ?_)
 ·replace h1 : ((i : Nat) : Int) < ((List.length x0 : Nat) : Int) := of_decide_eq_true h1
  refine wp_skip (then_normal (wp_seq (wp_block (wp_seq ?_))))
  refine at_regq [] { ts := [0, 2, 4, 5, 6, 7], os := [] } [(0 : Int) ≤ ((i : Nat) : Int) ∧ ((i : Nat) : Int) < ((List.length x0 : Nat) : Int)] gamOK hT h (by kernel_rfl) ⟨(by refine ⟨?_, ?_⟩ <;> (first | omega | (simp only [lsA]; omega) | (simp <;> omega))), trivial⟩ fun a w h => then_normal (wp_seq ?_)
  refine at_regq [] { ts := [0, 2, 5, 6, 7, 13], os := [] } [True] gamOK hT h (by kernel_rfl) ⟨trivial, trivial⟩ fun a w h => then_normal ?_
  refine at_test (!(isEl (x0.getD i 0))) h (by kernel_rfl) (fun h2 => ?_) (fun h2 => ?_)
  ·replace h2 : (isEl (x0.getD i 0)) = false := notT h2
   refine wp_seq ?_
   refine at_regq [] { ts := [0, 2, 5, 6, 7], os := [] } [] gamOK hT h (by kernel_rfl) trivial fun a w h => then_normal (wp_ret (in_ret (then_ret ?_)))
   have hs3 : (List.all x0 isEl) = false := by exact all_at (z := 0) (i := i) (by omega) (by first | assumption | (simp_all; done))
   refine then_ret (in_ret (then_ret ?_))
   exact at_return (S := S_impl_IsValidVector) (x := (x0, ())) (false, ()) [] h (by kernel_rfl) trivial (congrArg (fun z => (z, ())) (show (false) = validV x0 from by first | rfl | (unfold validV; rw [if_neg (neT hs3)])))
  ·replace h2 : (isEl (x0.getD i 0)) = true := notF h2
   have hvh2 := isEl_t h2
   refine wp_skip (in_normal (then_normal ?_))
   refine at_regq [{ nw := true }] { ts := [0, 2, 5, 6, 7], os := [] } [I64 (((i : Nat) : Int) + 1)] gamOK hT h (by kernel_rfl) ⟨⟨by first | omega | (simp only [lsA]; omega) | (simp <;> omega), by first | omega | (simp only [lsA]; omega) | (simp <;> omega)⟩, trivial⟩ fun a w h => ?_
   replace h := at_out (σ' := ⟨[(0, aF (.int 3) x0), (2, aB false), (5, aF (.int 3) x0), (6, aI ((List.length x0 : Nat) : Int)), (7, aI (((i : Nat) : Int) + 1))], []⟩) { ts := [0, 2, 5, 6, 7], os := [] } h (by kernel_rfl)
   exact ⟨i + 1, at_eq h (st_congr1 (fun (d0 : Int) => (⟨[(0, aF (.int 3) x0), (2, aB false), (5, aF (.int 3) x0), (6, aI ((List.length x0 : Nat) : Int)), (7, aI d0)], []⟩ : St)) (show (((i : Nat) : Int) + 1 : Int) = (((i + 1) : Nat) : Int) from by first | with_reducible rfl | (omega) | rfl)), (by exact ⟨by omega, allTo1_succ hok0.2 (by first | assumption | (simp_all; done))⟩), (by omega)⟩
 ·replace h1 : ¬ (((i : Nat) : Int) < ((List.length x0 : Nat) : Int)) := of_decide_eq_false h1
  refine wp_exit (then_exit ?_)
  have hs4 : (List.all x0 isEl) = true := by exact all_of (z := 0) (i := i) (by omega) hok0.2
  refine then_exit (in_hit (then_normal (wp_seq ?_)))
  refine at_regq [] { ts := [2], os := [] } [] gamOK hT h (by kernel_rfl) trivial fun a w h => then_normal (wp_ret ?_)
  exact at_return (S := S_impl_IsValidVector) (x := (x0, ())) (decide (((List.length x0 : Nat) : Int) ≤ 40), ()) [] h (by kernel_rfl) trivial (congrArg (fun z => (z, ())) (show (decide (((List.length x0 : Nat) : Int) ≤ 40)) = validV x0 from by first | rfl | (unfold validV; rw [if_pos hs4])))
theorem validV_t {v : List Int} (h : validV v = true) : List.length v ≤ 40 ∧ (∀ x ∈ v, LA.El x) ∧ (∀ j, 0 ≤ v.getD j 0 ∧ v.getD j 0 ≤ 1018) := by
  unfold validV at h
  split at h
  · rename_i ha
    have := of_decide_eq_true h
    exact ⟨by omega, validV_el ha, elB (validV_el ha)⟩
  · cases h
def scaleV (v : List Int) (k : Int) : List Int := if validV v = true ∧ isEl k = true then LA.scaleS v k else []
def addV (a b : List Int) (k : Int) : List Int := if (validV a = true ∧ validV b = true ∧ List.length a = List.length b) ∧ isEl k = true then LA.addS a b k else []

end Go.Proofs.Ytdmkjcnppgfeoaa

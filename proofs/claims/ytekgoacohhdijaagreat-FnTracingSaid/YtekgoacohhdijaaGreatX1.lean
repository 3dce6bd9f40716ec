/- The walks of the functions that the law reaches: each summary holds. No condition. -/
import Derived.Test.YtekgoacohhdijaaGreatPMK
import Derived.Test.YtekgoacohhdijaaGreatLA
import Derived.Test.YtekgoacohhdijaaGreatProg
import Derived.Test.YtekgoacohhdijaaGreatSH
namespace Go.Proofs.YtekgoacohhdijaaGreat
open Go.RowKit Go.Maps Go.Sort Go.Shelf
set_option linter.unusedVariables false
set_option linter.unusedSimpArgs false
abbrev s27 : Sh := .sl 27 (.int 3)
abbrev s36 : Sh := .st 36 (.pair (.int 3) (.pair s27 s27))
abbrev T36 : Type := (Int × ((List Int) × (List Int)))
abbrev s31 : Sh := .st 31 (.pair (.int 3) (.pair (.int 3) (.pair (.int 3) (.pair (.int 3) (.pair s27 (.int 3))))))
abbrev T31 : Type := (Int × (Int × (Int × (Int × ((List Int) × Int)))))
abbrev s40 : Sh := .st 40 (.pair (.int 3) (.pair (.int 3) (.pair (.int 3) (.pair s36 (.int 3)))))
abbrev T40 : Type := (Int × (Int × (Int × (T36 × Int))))
abbrev s24 : Sh := .sl 24 s27
abbrev s26 : Sh := .st 26 (.pair (.int 3) s24)
abbrev T26 : Type := (Int × (List (List Int)))
abbrev s29 : Sh := .st 29 s27
abbrev s22 : Sh := .sl 22 (.u8 5)
abbrev s70 : Sh := .st 70 (.pair s22 (.pair (.int 3) (.int 3)))
abbrev T70 : Type := ((List Int) × (Int × Int))
abbrev s42 : Sh := .sl 42 s40
def gam : Gam := [(27, (.int 3), 8), (24, s27, 24), (42, s40, 88)]
theorem gamOK : GamOK Tryz.prog gam := (.cons (Elem.of (.int .i64 0) Tryz.underlying27 (by kernel_rfl) rfl (by decide) (by decide)) (.cons (Elem.of (.slice none 0 0) Tryz.underlying24 (by kernel_rfl) rfl (by decide) (by decide)) (.cons (Elem.of (.agg #[(.int .i64 0), (.int .i64 0), (.int .i64 0), (.int .i64 0), (.slice none 0 0), (.slice none 0 0), (.int .i64 0)]) Tryz.underlying42 (by kernel_rfl) rfl (by decide) (by decide)) .nil)))
theorem mixed : Tryz.prog.follows .mixedOrders = true := by kernel_rfl
theorem lsA {α : Type} : (∀ xs ys : List α, (xs ++ ys).length = xs.length + ys.length) ∧ (∀ (x : α) (xs : List α), (x :: xs).length = xs.length + 1) ∧ (([] : List α).length = 0) ∧ (∀ (xs : List α) (i : Nat) (a : α), (xs.set i a).length = xs.length) ∧ (∀ (xs : List α) (n : Nat), (xs.take n).length = min n xs.length) ∧ (∀ (xs : List α) (n : Nat), (xs.drop n).length = xs.length - n) ∧ (∀ (n : Nat) (a : α), (List.replicate n a).length = n) := ⟨fun _ _ => List.length_append, fun _ _ => rfl, rfl, fun _ _ _ => List.length_set, fun _ _ => List.length_take, fun _ _ => List.length_drop, fun _ _ => List.length_replicate⟩
def inR (n lo hi : Int) : Bool := decide (lo ≤ n ∧ n ≤ hi)
theorem inR_t {n a b : Int} (h : inR n a b = true) : a ≤ n ∧ n ≤ b := of_decide_eq_true h
theorem inR_f {n a b : Int} (h : inR n a b = false) : n < a ∨ b < n := by have := of_decide_eq_false h; omega
theorem inR_true {n a b : Int} (h : a ≤ n ∧ n ≤ b) : inR n a b = true := decide_eq_true h
def lenOK {α : Type} (xs : List α) : Prop := xs.length ≤ 1073741824
def idL {α : Type} (xs : List α) : List α := xs
def u8L (xs : List Int) : Prop := ∀ e : Int, List.Mem e xs → (0 : Int) ≤ e ∧ e < (256 : Int)
theorem getD_u8 {xs : List Int} (h : u8L xs) (i : Nat) : (0 : Int) ≤ xs.getD i 0 ∧ xs.getD i 0 < (256 : Int) := by
 by_cases l : i < xs.length
 ·rw [List.getD_eq_getElem?_getD, List.getElem?_eq_getElem l]; exact h _ (List.getElem_mem l)
 ·rw [List.getD_eq_getElem?_getD, List.getElem?_eq_none (by omega)]; constructor <;> decide
section
variable {α β : Type}
def noneTo (p : α → Bool) (xs : List α) (z : α) (i : Nat) : Prop := ∀ j, j < i → p (xs.getD j z) = false
def idxF (p : α → Bool) : List α → Int
 | [] => -1
 | x :: l => if p x = true then 0 else if idxF p l < 0 then -1 else idxF p l + 1
theorem noneTo_zero {p : α → Bool} {xs : List α} {z : α} : noneTo p xs z 0 := fun j h => by omega
theorem noneTo_succ {p : α → Bool} {xs : List α} {z : α} {i : Nat} (h : noneTo p xs z i) (k : p (xs.getD i z) = false) : noneTo p xs z (i + 1) := fun j hj => by
 by_cases e : j = i
 ·subst e; exact k
 ·exact h j (by omega)
theorem idxF_at {p : α → Bool} {z : α} : ∀ {xs : List α} {i : Nat}, i < xs.length → noneTo p xs z i → p (xs.getD i z) = true → idxF p xs = i
 | [], _, h, _, _ => by simp at h
 | x :: l, 0, _, _, k => by
  have k : p x = true := k
  simp [idxF, k]
 | x :: l, i + 1, h, hn, k => by
  have h0 : p x = false := hn 0 (by omega)
  have := idxF_at (xs := l) (i := i) (by simpa using h) (fun j hj => by have := hn (j + 1) (by omega); simpa using this) (by simpa using k)
  simp only [idxF, h0, this]
  rw [if_neg (by decide), if_neg (by omega)]
  omega
theorem idxF_none {p : α → Bool} {z : α} : ∀ {xs : List α} {i : Nat}, xs.length ≤ i → noneTo p xs z i → idxF p xs = -1
 | [], _, _, _ => rfl
 | x :: l, 0, h, _ => by simp at h
 | x :: l, i + 1, h, hn => by
  have h0 : p x = false := hn 0 (by omega)
  have := idxF_none (xs := l) (i := i) (by simpa using h) (fun j hj => by have := hn (j + 1) (by omega); simpa using this)
  simp [idxF, h0, this]
theorem idxF_pos {p : α → Bool} : ∀ {xs : List α}, 0 ≤ idxF p xs ↔ xs.any p = true
 | [] => by simp [idxF]
 | x :: l => by
  have := idxF_pos (xs := l) (p := p)
  simp only [idxF, List.any_cons, Bool.or_eq_true, ← this]
  by_cases hx : p x = true
  ·simp [hx]
  ·rw [if_neg hx]
   split
   ·rename_i h; constructor
    ·intro h'; omega
    ·rintro (h' | h')
     ·exact absurd h' hx
     ·omega
   ·rename_i h; constructor
    ·intro h'; right; omega
    ·intro _; omega
theorem idxF_any {p : α → Bool} {xs : List α} : decide (idxF p xs ≥ 0) = xs.any p := by
 rw [Bool.eq_iff_iff, decide_eq_true_iff]; exact idxF_pos
def allTo2 (e : α → β → Bool) (xs : List α) (ys : List β) (z : α) (y : β) (i : Nat) : Prop := ∀ j, j < i → e (xs.getD j z) (ys.getD j y) = true
def eqF (e : α → β → Bool) : List α → List β → Bool
 | [], [] => true
 | x :: l, y :: l' => e x y && eqF e l l'
 | _, _ => false
theorem allTo2_zero {e : α → β → Bool} {xs : List α} {ys : List β} {z : α} {y : β} : allTo2 e xs ys z y 0 := fun j h => by omega
theorem allTo2_succ {e : α → β → Bool} {xs : List α} {ys : List β} {z : α} {y : β} {i : Nat} (h : allTo2 e xs ys z y i) (k : e (xs.getD i z) (ys.getD i y) = true) : allTo2 e xs ys z y (i + 1) := fun j hj => by
 by_cases e : j = i
 ·subst e; exact k
 ·exact h j (by omega)
theorem eqF_len {e : α → β → Bool} : ∀ {xs : List α} {ys : List β}, xs.length ≠ ys.length → eqF e xs ys = false
 | [], [], h => absurd rfl h
 | [], _ :: _, _ => rfl
 | _ :: _, [], _ => rfl
 | _ :: l, _ :: l', h => by simp only [eqF]; rw [eqF_len (xs := l) (ys := l') (by simpa using h), Bool.and_false]
theorem eqF_at {e : α → β → Bool} {z : α} {y : β} : ∀ {xs : List α} {ys : List β} {i : Nat}, i < xs.length → i < ys.length → e (xs.getD i z) (ys.getD i y) = false → eqF e xs ys = false
 | x :: l, y' :: l', 0, _, _, h => by
  have h : e x y' = false := h
  simp [eqF, h]
 | x :: l, y' :: l', i + 1, h1, h2, h => by simp only [eqF]; rw [eqF_at (xs := l) (ys := l') (i := i) (by simpa using h1) (by simpa using h2) (by simpa using h), Bool.and_false]
 | [], _, _, h1, _, _ => by simp at h1
 | _ :: _, [], _, _, h2, _ => by simp at h2
theorem eqF_all {e : α → β → Bool} {z : α} {y : β} : ∀ {xs : List α} {ys : List β} {i : Nat}, xs.length = ys.length → xs.length ≤ i → allTo2 e xs ys z y i → eqF e xs ys = true
 | [], [], _, _, _, _ => rfl
 | [], _ :: _, _, h, _, _ => by simp at h
 | _ :: _, [], _, h, _, _ => by simp at h
 | x :: l, y' :: l', 0, _, h, _ => by simp at h
 | x :: l, y' :: l', i + 1, h, hi, ha => by
  have h0 : e x y' = true := ha 0 (by omega)
  simp only [eqF]
  rw [h0, eqF_all (xs := l) (ys := l') (i := i) (by simpa using h) (by simpa using hi) (fun j hj => by have := ha (j + 1) (by omega); simpa using this)]
  rfl
def allTo1 (p : α → Bool) (xs : List α) (z : α) (i : Nat) : Prop := ∀ j, j < i → p (xs.getD j z) = true
theorem allTo1_zero {p : α → Bool} {xs : List α} {z : α} : allTo1 p xs z 0 := fun j h => by omega
theorem allTo1_succ {p : α → Bool} {xs : List α} {z : α} {i : Nat} (h : allTo1 p xs z i) (k : p (xs.getD i z) = true) : allTo1 p xs z (i + 1) := fun j hj => by
 by_cases e : j = i
 ·subst e; exact k
 ·exact h j (by omega)
theorem all_at {p : α → Bool} {xs : List α} {z : α} {i : Nat} (h : i < xs.length) (k : p (xs.getD i z) = false) : xs.all p = false := by
 rw [Bool.eq_false_iff]; intro ha
 have := List.all_eq_true.1 ha _ (getD_mem (z := z) h)
 rw [k] at this; cases this
theorem all_of {p : α → Bool} {xs : List α} {z : α} {i : Nat} (h : xs.length ≤ i) (k : allTo1 p xs z i) : xs.all p = true := by
 rw [List.all_eq_true]; intro x hx
 obtain ⟨j, hj, rfl⟩ := List.getElem_of_mem hx
 have := k j (by omega)
 rwa [getD_of_lt hj] at this
def foldTo (f : β → α → β) (b : β) (xs : List α) (i : Nat) : β := (xs.take i).foldl f b
theorem foldTo_zero {f : β → α → β} {b : β} {xs : List α} : foldTo f b xs 0 = b := rfl
theorem foldTo_succ {f : β → α → β} {b : β} {xs : List α} {i : Nat} (z : α) (h : i < xs.length) : foldTo f b xs (i + 1) = f (foldTo f b xs i) (xs.getD i z) := by
 unfold foldTo; rw [take_snoc (z := z) h, List.foldl_append]; rfl
theorem foldTo_all {f : β → α → β} {b : β} {xs : List α} {i : Nat} (h : xs.length ≤ i) : foldTo f b xs i = xs.foldl f b := by unfold foldTo; rw [take_all h]
end
section
variable {α β : Type}
theorem any_at {p : α → Bool} {xs : List α} {z : α} {i : Nat} (h : i < xs.length) (k : p (xs.getD i z) = true) : xs.any p = true := List.any_eq_true.2 ⟨_, getD_mem h, k⟩
theorem any_of {p : α → Bool} {xs : List α} {z : α} {i : Nat} (h : xs.length ≤ i) (k : noneTo p xs z i) : xs.any p = false := by
 rw [Bool.eq_false_iff]; intro ha
 obtain ⟨x, hx, hp⟩ := List.any_eq_true.1 ha
 obtain ⟨j, hj, rfl⟩ := List.getElem_of_mem hx
 have := k j (by omega)
 rw [getD_of_lt hj, hp] at this; cases this
def allN (P : Nat → Bool) : Nat → Bool
 | 0 => true
 | n + 1 => allN P n && P n
theorem allN_succ {P : Nat → Bool} {i : Nat} (h : allN P i = true) (k : P i = true) : allN P (i + 1) = true := by simp [allN, h, k]
theorem allN_iff {P : Nat → Bool} : ∀ {n : Nat}, allN P n = true ↔ ∀ j, j < n → P j = true
 | 0 => by simp [allN]
 | n + 1 => by
  simp only [allN, Bool.and_eq_true, allN_iff (n := n)]
  constructor
  ·rintro ⟨h1, h2⟩ j hj
   by_cases e : j = n
   ·rw [e]; exact h2
   ·exact h1 j (by omega)
  ·intro h; exact ⟨fun j hj => h j (by omega), h n (by omega)⟩
theorem allN_eq {P : Nat → Bool} {i n : Nat} (h : n ≤ i) (h' : i ≤ n) (k : allN P i = true) : allN P n = true := by rw [show n = i by omega]; exact k
theorem allN_at {P : Nat → Bool} {i n : Nat} (h : i < n) (k : P i = false) : allN P n = false := by
 rw [Bool.eq_false_iff]; intro ha
 rw [allN_iff.1 ha i h] at k; cases k
theorem map_snoc {f : α → β} {xs : List α} {i : Nat} {z : α} (h : i < xs.length) : (xs.take (i + 1)).map f = (xs.take i).map f ++ [f (xs.getD i z)] := by rw [take_snoc (z := z) h, List.map_append]; rfl
theorem filter_snoc_t {p : α → Bool} {xs : List α} {i : Nat} {z : α} (h : i < xs.length) (k : p (xs.getD i z) = true) : (xs.take (i + 1)).filter p = (xs.take i).filter p ++ [xs.getD i z] := by rw [take_snoc (z := z) h, List.filter_append, List.filter_cons_of_pos k]; rfl
theorem filter_snoc_f {p : α → Bool} {xs : List α} {i : Nat} {z : α} (h : i < xs.length) (k : p (xs.getD i z) = false) : (xs.take (i + 1)).filter p = (xs.take i).filter p := by rw [take_snoc (z := z) h, List.filter_append, List.filter_cons_of_neg (by rw [k]; decide)]; simp
theorem len_filter_take {p : α → Bool} {xs : List α} (i : Nat) : ((xs.take i).filter p).length ≤ xs.length := Nat.le_trans (List.length_filter_le _ _) (by simp; omega)
theorem len_take_le {xs : List α} (i : Nat) : (xs.take i).length ≤ xs.length := by simp; omega
end
theorem any_not {α : Type} (p : α → Bool) (xs : List α) : (xs.any fun e => !p e) = !(xs.all p) := by
 induction xs with
 | nil => rfl
 | cons x l ih => rw [List.any_cons, List.all_cons, ih, Bool.not_and]
def S_slices_Clone_S_int_int_ : Sum := { fid := 40, dom := [s27], cod := [s27], dp := true, fz := false, pre := fun x => (lenOK (α := Int)) x.1, g := fun x => (((idL (α := Int)) x.1), ()) }
def S_slices_Clone_S_int_int__tab : List (Nat × Sum) := []
theorem S_slices_Clone_S_int_int__ok : FnOK Tryz.prog 40 S_slices_Clone_S_int_int_ := by
 refine at_enter 8 (fun x => ⟨[(0, aF (.int 3) x.1)], []⟩) Tryz.func40 rfl (by kernel_rfl) (fun x => rfl) ?_
 rintro w0 Z0 ⟨x0, u⟩ a w
 revert x0
 intro (x0 : (List Int)) hpre hlens h
 replace hpre : (lenOK (α := Int)) x0 := hpre
 have hl1 : List.length x0 ≤ 9223372036854775807 := hlens.1.1
 have hT : TabOK Tryz.prog w0 [] S_slices_Clone_S_int_int__tab := .nil
 have hp : List.length x0 ≤ 1073741824 := hpre
 refine wp_seq ?_
 refine at_regq [] { ts := [0, 2], os := [] } [] gamOK hT h (by kernel_rfl) trivial fun a w h => then_normal (wp_seq (wp_seq ?_))
 refine at_regq [] { ts := [0, 2, 4], os := [] } [] gamOK hT h (by kernel_rfl) trivial fun a w h => then_normal ?_
 refine at_nil (List.length x0) h (by kernel_rfl) (fun h1 => ?_) ?_
 ·refine wp_seq ?_
  refine at_regq [] { ts := [0, 2], os := [] } [] gamOK hT h (by kernel_rfl) trivial fun a w h => then_normal (wp_ret (then_ret ?_))
  exact at_return (([] : List Int), ()) [] h (by kernel_rfl) trivial (congrArg (fun z => (z, ())) (show (([] : List Int)) = (idL (α := Int)) x0 from by (show [] = x0; exact (List.eq_nil_of_length_eq_zero h1).symm)))
 ·refine wp_skip (then_normal (wp_seq ?_))
  refine at_regq [{ ids := [1] }, {}, { ids := [2] }] { ts := [2], os := [2] } [(List.length ([] : List Int) + List.length x0) * 8 ≤ 140737488355328] gamOK hT h (by kernel_rfl) ⟨(by first | omega | (simp only [lsA]; omega) | (simp <;> omega)), trivial⟩ fun a w h => then_normal (wp_ret ?_)
  exact at_return ((([] : List Int) ++ x0), ()) [] h (by kernel_rfl) trivial (congrArg (fun z => (z, ())) (show ((([] : List Int) ++ x0)) = (idL (α := Int)) x0 from by (show [] ++ x0 = x0; rfl)))

def S_slices_Equal_S_int_int_ : Sum := { fid := 52, dom := [s27, s27], cod := [(.bool 4)], dp := true, fz := false, pre := fun x => True, g := fun x => (((Sh.eqB s27) x.1 x.2.1), ()) }
def S_slices_Equal_S_int_int__tab : List (Nat × Sum) := []
theorem S_slices_Equal_S_int_int__ok : FnOK Tryz.prog 52 S_slices_Equal_S_int_int_ := by
 refine at_enter 26 (fun x => ⟨[(0, aF (.int 3) x.1), (1, aF (.int 3) x.2.1)], []⟩) Tryz.func52 rfl (by kernel_rfl) (fun x => rfl) ?_
 rintro w0 Z0 ⟨x0, x1, u⟩ a w
 revert x0 x1
 intro (x0 : (List Int)) (x1 : (List Int)) hpre hlens h
 have hl1 : List.length x0 ≤ 9223372036854775807 := hlens.1.1
 have hl2 : List.length x1 ≤ 9223372036854775807 := hlens.2.1.1
 have hT : TabOK Tryz.prog w0 [] S_slices_Equal_S_int_int__tab := .nil
 refine wp_seq ?_
 refine at_regq [] { ts := [0, 1, 4], os := [] } [] gamOK hT h (by kernel_rfl) trivial fun a w h => then_normal (wp_seq (wp_seq ?_))
 refine at_regq [] { ts := [0, 1, 4, 10], os := [] } [] gamOK hT h (by kernel_rfl) trivial fun a w h => then_normal ?_
 refine at_test (!decide (((List.length x0 : Nat) : Int) = ((List.length x1 : Nat) : Int))) h (by kernel_rfl) (fun h1 => ?_) (fun h1 => ?_)
 ·replace h1 : ¬ (((List.length x0 : Nat) : Int) = ((List.length x1 : Nat) : Int)) := of_decide_eq_false (notT h1)
  refine wp_seq ?_
  refine at_regq [] { ts := [0, 1, 4], os := [] } [] gamOK hT h (by kernel_rfl) trivial fun a w h => then_normal (wp_ret (then_ret ?_))
  exact at_return (false, ()) [] h (by kernel_rfl) trivial (congrArg (fun z => (z, ())) (show (false) = (Sh.eqB s27) x0 x1 from by exact (Sh.eqB_ne (fun e => h1 (by rw [e]))).symm))
 ·replace h1 : ((List.length x0 : Nat) : Int) = ((List.length x1 : Nat) : Int) := of_decide_eq_true (notF h1)
  refine wp_skip (then_normal (wp_seq (wp_seq ?_)))
  refine at_regq [] { ts := [0, 1, 4, 12, 13], os := [] } [] gamOK hT h (by kernel_rfl) trivial fun a w h => then_normal (wp_block ?_)
  replace h := at_out (σ' := ⟨[(0, aF (.int 3) x0), (1, aF (.int 3) x1), (4, aB false), (12, aI ((List.length x0 : Nat) : Int)), (13, aI 0)], []⟩) { ts := [0, 1, 4, 12, 13], os := [] } h (by kernel_rfl)
  refine at_loop (fun i : Nat => (⟨[(0, aF (.int 3) x0), (1, aF (.int 3) x1), (4, aB false), (12, aI ((List.length x0 : Nat) : Int)), (13, aI ((i : Nat) : Int))], []⟩ : St)) (fun i => (i ≤ List.length x0 ∧ x0.take i = x1.take i)) (fun i => List.length x0 - i) (0) h (st_congr1 (fun (d0 : Int) => (⟨[(0, aF (.int 3) x0), (1, aF (.int 3) x1), (4, aB false), (12, aI ((List.length x0 : Nat) : Int)), (13, aI d0)], []⟩ : St)) (show (0 : Int) = (((0) : Nat) : Int) from by first | with_reducible rfl | (rfl) | rfl)) (by exact ⟨Nat.zero_le _, rfl⟩) ?_
  intro i a w hok0 h
  refine wp_seq ?_
  refine at_regq [] { ts := [0, 1, 4, 12, 13, 14], os := [] } [] gamOK hT h (by kernel_rfl) trivial fun a w h => then_normal (wp_seq ?_)
  refine at_test (decide (((i : Nat) : Int) < ((List.length x0 : Nat) : Int))) h (by kernel_rfl) (fun h2 => ?_) (fun h2 => ?_)
  ·replace h2 : ((i : Nat) : Int) < ((List.length x0 : Nat) : Int) := of_decide_eq_true h2
   refine wp_skip (then_normal (wp_seq (wp_block (wp_seq ?_))))
   refine at_regq [] { ts := [0, 1, 4, 5, 12, 13], os := [] } [] gamOK hT h (by kernel_rfl) trivial fun a w h => then_normal (wp_seq ?_)
   refine at_anyq [{}, {}, {}, {}, {}, {}, {}, {}, {}] { ts := [0, 1, 4, 12, 13, 24], os := [] } [(0 : Int) ≤ ((i : Nat) : Int) ∧ ((i : Nat) : Int) < ((List.length x0 : Nat) : Int), (0 : Int) ≤ ((i : Nat) : Int) ∧ ((i : Nat) : Int) < ((List.length x1 : Nat) : Int)] gamOK hT mixed h (by kernel_rfl) ⟨(by refine ⟨?_, ?_⟩ <;> (first | omega | (simp only [lsA]; omega) | (simp <;> omega))), (by refine ⟨?_, ?_⟩ <;> (first | omega | (simp only [lsA]; omega) | (simp <;> omega))), trivial⟩ fun a w h => then_normal ?_
   refine at_test (!decide ((x0.getD i 0) = (x1.getD i 0))) h (by kernel_rfl) (fun h3 => ?_) (fun h3 => ?_)
   ·replace h3 : ¬ ((x0.getD i 0) = (x1.getD i 0)) := of_decide_eq_false (notT h3)
    refine wp_seq ?_
    refine at_regq [] { ts := [0, 1, 4, 12, 13], os := [] } [] gamOK hT h (by kernel_rfl) trivial fun a w h => then_normal (wp_ret (in_ret (then_ret (then_ret (in_ret (then_ret ?_))))))
    exact at_return (false, ()) [] h (by kernel_rfl) trivial (congrArg (fun z => (z, ())) (show (false) = (Sh.eqB s27) x0 x1 from by exact (Sh.eqB_ne (s := s27) (fun e => h3 (by rw [e]))).symm))
   ·replace h3 : (x0.getD i 0) = (x1.getD i 0) := of_decide_eq_true (notF h3)
    refine wp_skip (in_normal (then_normal ?_))
    refine at_regq [{ nw := true }] { ts := [0, 1, 4, 12, 13], os := [] } [I64 (((i : Nat) : Int) + 1)] gamOK hT h (by kernel_rfl) ⟨⟨by first | omega | (simp only [lsA]; omega) | (simp <;> omega), by first | omega | (simp only [lsA]; omega) | (simp <;> omega)⟩, trivial⟩ fun a w h => ?_
    replace h := at_out (σ' := ⟨[(0, aF (.int 3) x0), (1, aF (.int 3) x1), (4, aB false), (12, aI ((List.length x0 : Nat) : Int)), (13, aI (((i : Nat) : Int) + 1))], []⟩) { ts := [0, 1, 4, 12, 13], os := [] } h (by kernel_rfl)
    exact ⟨i + 1, at_eq h (st_congr1 (fun (d0 : Int) => (⟨[(0, aF (.int 3) x0), (1, aF (.int 3) x1), (4, aB false), (12, aI ((List.length x0 : Nat) : Int)), (13, aI d0)], []⟩ : St)) (show (((i : Nat) : Int) + 1 : Int) = (((i + 1) : Nat) : Int) from by first | with_reducible rfl | (omega) | rfl)), (by exact ⟨by omega, eqTo_step (z := 0) (by omega) (by omega) hok0.2 h3⟩), (by omega)⟩
  ·replace h2 : ¬ (((i : Nat) : Int) < ((List.length x0 : Nat) : Int)) := of_decide_eq_false h2
   refine wp_exit (then_exit (then_exit (in_hit (then_normal (wp_seq ?_)))))
   refine at_regq [] { ts := [4], os := [] } [] gamOK hT h (by kernel_rfl) trivial fun a w h => then_normal (wp_ret ?_)
   exact at_return (true, ()) [] h (by kernel_rfl) trivial (congrArg (fun z => (z, ())) (show (true) = (Sh.eqB s27) x0 x1 from by (have e := hok0.2; rw [take_all (by omega), take_all (by omega)] at e; exact ((Sh.eqB_iff s27).2 e).symm)))

def S_impl_InRange : Sum := { fid := 41, dom := [(.int 3), (.int 3), (.int 3)], cod := [(.bool 4)], dp := true, fz := false, pre := fun x => True, g := fun x => ((inR x.1 x.2.1 x.2.2.1), ()) }
def S_impl_InRange_tab : List (Nat × Sum) := []
theorem S_impl_InRange_ok : FnOK Tryz.prog 41 S_impl_InRange := by
 refine at_enter 15 (fun x => ⟨[(0, aI x.1), (1, aI x.2.1), (2, aI x.2.2.1)], []⟩) Tryz.func41 rfl (by kernel_rfl) (fun x => rfl) ?_
 rintro w0 Z0 ⟨x0, x1, x2, u⟩ a w
 revert x0 x1 x2
 intro (x0 : Int) (x1 : Int) (x2 : Int) hpre hlens h
 have hT : TabOK Tryz.prog w0 [] S_impl_InRange_tab := .nil
 refine wp_seq ?_
 refine at_regq [] { ts := [0, 1, 2, 6], os := [] } [] gamOK hT h (by kernel_rfl) trivial fun a w h => then_normal (wp_seq ?_)
 by_cases h1 : x1 ≤ x0
 ·refine at_regq [{}, {}, { hint := some (aB true) }] { ts := [6], os := [] } [(AV.p (.c (.v (.bool (decide (x1 ≤ x0))))) = AV.p (.c (.v (.bool true))))] gamOK hT h (by kernel_rfl) ⟨hint_bool (decide_eq_true h1), trivial⟩ fun a w h => then_normal (wp_ret ?_)
  exact at_return (decide (x0 ≤ x2), ()) [] h (by kernel_rfl) trivial (congrArg (fun z => (z, ())) (show (decide (x0 ≤ x2)) = inR x0 x1 x2 from by (unfold inR; simp [*]; done)))
 ·refine at_regq [{}, {}, { hint := some (aB false) }] { ts := [6], os := [] } [(AV.p (.c (.v (.bool (decide (x1 ≤ x0))))) = AV.p (.c (.v (.bool false))))] gamOK hT h (by kernel_rfl) ⟨hint_bool (decide_eq_false h1), trivial⟩ fun a w h => then_normal (wp_ret ?_)
  exact at_return (false, ()) [] h (by kernel_rfl) trivial (congrArg (fun z => (z, ())) (show (false) = inR x0 x1 x2 from by (unfold inR; simp [*]; done)))

def S_spec_l1In : Sum := { fid := 36, dom := [(.int 3), (.int 3), (.int 3)], cod := [(.bool 4)], dp := true, fz := false, pre := fun x => True, g := fun x => ((inR x.1 x.2.1 x.2.2.1), ()) }
def S_spec_l1In_tab : List (Nat × Sum) := []
theorem S_spec_l1In_ok : FnOK Tryz.prog 36 S_spec_l1In := by
 refine at_enter 15 (fun x => ⟨[(0, aI x.1), (1, aI x.2.1), (2, aI x.2.2.1)], []⟩) Tryz.func36 rfl (by kernel_rfl) (fun x => rfl) ?_
 rintro w0 Z0 ⟨x0, x1, x2, u⟩ a w
 revert x0 x1 x2
 intro (x0 : Int) (x1 : Int) (x2 : Int) hpre hlens h
 have hT : TabOK Tryz.prog w0 [] S_spec_l1In_tab := .nil
 refine wp_seq ?_
 refine at_regq [] { ts := [0, 1, 2, 6], os := [] } [] gamOK hT h (by kernel_rfl) trivial fun a w h => then_normal (wp_seq ?_)
 by_cases h1 : x0 ≥ x1
 ·refine at_regq [{}, {}, { hint := some (aB true) }] { ts := [6], os := [] } [(AV.p (.c (.v (.bool (decide (x0 ≥ x1))))) = AV.p (.c (.v (.bool true))))] gamOK hT h (by kernel_rfl) ⟨hint_bool (decide_eq_true h1), trivial⟩ fun a w h => then_normal (wp_ret ?_)
  exact at_return (decide (x0 ≤ x2), ()) [] h (by kernel_rfl) trivial (congrArg (fun z => (z, ())) (show (decide (x0 ≤ x2)) = inR x0 x1 x2 from by (unfold inR; first | (simp only [ge_iff_le] at *; simp [*]; done) | (rw [decide_eq_false]; omega))))
 ·refine at_regq [{}, {}, { hint := some (aB false) }] { ts := [6], os := [] } [(AV.p (.c (.v (.bool (decide (x0 ≥ x1))))) = AV.p (.c (.v (.bool false))))] gamOK hT h (by kernel_rfl) ⟨hint_bool (decide_eq_false h1), trivial⟩ fun a w h => then_normal (wp_ret ?_)
  exact at_return (false, ()) [] h (by kernel_rfl) trivial (congrArg (fun z => (z, ())) (show (false) = inR x0 x1 x2 from by (unfold inR; first | (simp only [ge_iff_le] at *; simp [*]; done) | (rw [decide_eq_false]; omega))))

def modF (x0 : Int) (x1 : Int) : Int := (if (inR x1 1 1000000000000) = true then (Int.tmod ((Int.tmod x0 x1) + x1) x1) else 0)
def S_impl_Mod : Sum := { fid := 72, dom := [(.int 3), (.int 3)], cod := [(.int 3)], dp := true, fz := false, pre := fun x => True, g := fun x => ((modF x.1 x.2.1), ()) }
def S_impl_Mod_tab : List (Nat × Sum) := [(41, S_impl_InRange)]
theorem S_impl_Mod_ok : FnOK Tryz.prog 72 S_impl_Mod := by
 refine at_enter 15 (fun x => ⟨[(0, aI x.1), (1, aI x.2.1)], []⟩) Tryz.func72 rfl (by kernel_rfl) (fun x => rfl) ?_
 rintro w0 Z0 ⟨x0, x1, u⟩ a w
 revert x0 x1
 intro (x0 : Int) (x1 : Int) hpre hlens h
 have hT : TabOK Tryz.prog w0 [] S_impl_Mod_tab := (.cons S_impl_InRange_ok .nil)
 refine wp_seq ?_
 refine at_regq [] { ts := [0, 1, 4], os := [] } [] gamOK hT h (by kernel_rfl) trivial fun a w h => then_normal (wp_seq (wp_seq ?_))
 refine at_regq [] { ts := [0, 1, 4, 7], os := [] } [True] gamOK hT h (by kernel_rfl) ⟨trivial, trivial⟩ fun a w h => then_normal ?_
 refine at_test (!(inR x1 1 1000000000000)) h (by kernel_rfl) (fun h1 => ?_) (fun h1 => ?_)
 ·replace h1 : (inR x1 1 1000000000000) = false := notT h1
  have hvh1 := inR_f h1
  refine wp_seq ?_
  refine at_regq [] { ts := [0, 1, 4], os := [] } [] gamOK hT h (by kernel_rfl) trivial fun a w h => then_normal (wp_ret (then_ret ?_))
  exact at_return (0, ()) [] h (by kernel_rfl) trivial (congrArg (fun z => (z, ())) (show (0) = modF x0 x1 from by first | rfl | (unfold modF; rw [if_neg (neT h1)])))
 ·replace h1 : (inR x1 1 1000000000000) = true := notF h1
  have hvh1 := inR_t h1
  refine wp_skip (then_normal (wp_seq ?_))
  refine at_regq [{}, {}, {}, {}, { nw := true }] { ts := [4], os := [] } [(x1 : Int) ≠ 0, I64 ((Int.tmod x0 x1) + x1), (x1 : Int) ≠ 0] gamOK hT h (by kernel_rfl) ⟨(by first | omega | (have := tmod_bd (p := x0) (q := x1) (by omega); omega)), ⟨by (have hA0 := tmod_v x0 x1; first | omega | (have := tmod_bd (p := x0) (q := x1) (by omega); omega)), by (have hA0 := tmod_v x0 x1; first | omega | (have := tmod_bd (p := x0) (q := x1) (by omega); omega))⟩, (by first | omega | (have := tmod_bd (p := x0) (q := x1) (by omega); omega)), trivial⟩ fun a w h => then_normal (wp_ret ?_)
  exact at_return ((Int.tmod ((Int.tmod x0 x1) + x1) x1), ()) [] h (by kernel_rfl) trivial (congrArg (fun z => (z, ())) (show ((Int.tmod ((Int.tmod x0 x1) + x1) x1)) = modF x0 x1 from by first | rfl | (unfold modF; rw [if_pos h1])))

def S_spec_Mod : Sum := { fid := 101, dom := [(.int 3), (.int 3)], cod := [(.int 3)], dp := true, fz := false, pre := fun x => True, g := fun x => ((modF x.1 x.2.1), ()) }
def S_spec_Mod_tab : List (Nat × Sum) := [(36, S_spec_l1In)]
theorem S_spec_Mod_ok : FnOK Tryz.prog 101 S_spec_Mod := by
 refine at_enter 15 (fun x => ⟨[(0, aI x.1), (1, aI x.2.1)], []⟩) Tryz.func101 rfl (by kernel_rfl) (fun x => rfl) ?_
 rintro w0 Z0 ⟨x0, x1, u⟩ a w
 revert x0 x1
 intro (x0 : Int) (x1 : Int) hpre hlens h
 have hT : TabOK Tryz.prog w0 [] S_spec_Mod_tab := (.cons S_spec_l1In_ok .nil)
 refine wp_seq ?_
 refine at_regq [] { ts := [0, 1, 4], os := [] } [] gamOK hT h (by kernel_rfl) trivial fun a w h => then_normal (wp_seq (wp_seq ?_))
 refine at_regq [] { ts := [0, 1, 4, 7], os := [] } [True] gamOK hT h (by kernel_rfl) ⟨trivial, trivial⟩ fun a w h => then_normal ?_
 refine at_test (!(inR x1 1 1000000000000)) h (by kernel_rfl) (fun h1 => ?_) (fun h1 => ?_)
 ·replace h1 : (inR x1 1 1000000000000) = false := notT h1
  have hvh1 := inR_f h1
  refine wp_seq ?_
  refine at_regq [] { ts := [0, 1, 4], os := [] } [] gamOK hT h (by kernel_rfl) trivial fun a w h => then_normal (wp_ret (then_ret ?_))
  exact at_return (0, ()) [] h (by kernel_rfl) trivial (congrArg (fun z => (z, ())) (show (0) = modF x0 x1 from by first | rfl | (unfold modF; rw [if_neg (neT h1)]; done) | (unfold modF; simp_all)))
 ·replace h1 : (inR x1 1 1000000000000) = true := notF h1
  have hvh1 := inR_t h1
  refine wp_skip (then_normal (wp_seq ?_))
  refine at_regq [{}, {}, {}, {}, { nw := true }] { ts := [4], os := [] } [(x1 : Int) ≠ 0, I64 ((Int.tmod x0 x1) + x1), (x1 : Int) ≠ 0] gamOK hT h (by kernel_rfl) ⟨(by first | omega | (have := tmod_bd (p := x0) (q := x1) (by omega); omega)), ⟨by (have hA0 := tmod_v x0 x1; first | omega | (have := tmod_bd (p := x0) (q := x1) (by omega); omega)), by (have hA0 := tmod_v x0 x1; first | omega | (have := tmod_bd (p := x0) (q := x1) (by omega); omega))⟩, (by first | omega | (have := tmod_bd (p := x0) (q := x1) (by omega); omega)), trivial⟩ fun a w h => then_normal (wp_ret ?_)
  exact at_return ((Int.tmod ((Int.tmod x0 x1) + x1) x1), ()) [] h (by kernel_rfl) trivial (congrArg (fun z => (z, ())) (show ((Int.tmod ((Int.tmod x0 x1) + x1) x1)) = modF x0 x1 from by first | rfl | (unfold modF; rw [if_pos h1]; done) | (unfold modF; simp_all)))

def isEl (x0 : Int) : Bool := (inR x0 0 1018)
def S_impl_IsElement : Sum := { fid := 80, dom := [(.int 3)], cod := [(.bool 4)], dp := true, fz := false, pre := fun x => True, g := fun x => ((isEl x.1), ()) }
def S_impl_IsElement_tab : List (Nat × Sum) := [(41, S_impl_InRange)]
theorem S_impl_IsElement_ok : FnOK Tryz.prog 80 S_impl_IsElement := by
 refine at_enter 5 (fun x => ⟨[(0, aI x.1)], []⟩) Tryz.func80 rfl (by kernel_rfl) (fun x => rfl) ?_
 rintro w0 Z0 ⟨x0, u⟩ a w
 revert x0
 intro (x0 : Int) hpre hlens h
 have hT : TabOK Tryz.prog w0 [] S_impl_IsElement_tab := (.cons S_impl_InRange_ok .nil)
 refine wp_seq ?_
 refine at_regq [] { ts := [0, 2], os := [] } [] gamOK hT h (by kernel_rfl) trivial fun a w h => then_normal (wp_seq ?_)
 refine at_regq [] { ts := [2], os := [] } [True] gamOK hT h (by kernel_rfl) ⟨trivial, trivial⟩ fun a w h => then_normal (wp_ret ?_)
 exact at_return ((inR x0 0 1018), ()) [] h (by kernel_rfl) trivial (congrArg (fun z => (z, ())) (show ((inR x0 0 1018)) = isEl x0 from by rfl))
theorem isEl_t {x : Int} (h : isEl x = true) : 0 ≤ x ∧ x ≤ 1018 := inR_t h

def S_spec_IsElement : Sum := { fid := 38, dom := [(.int 3)], cod := [(.bool 4)], dp := true, fz := false, pre := fun x => True, g := fun x => ((isEl x.1), ()) }
def S_spec_IsElement_tab : List (Nat × Sum) := [(36, S_spec_l1In)]
theorem S_spec_IsElement_ok : FnOK Tryz.prog 38 S_spec_IsElement := by
 refine at_enter 5 (fun x => ⟨[(0, aI x.1)], []⟩) Tryz.func38 rfl (by kernel_rfl) (fun x => rfl) ?_
 rintro w0 Z0 ⟨x0, u⟩ a w
 revert x0
 intro (x0 : Int) hpre hlens h
 have hT : TabOK Tryz.prog w0 [] S_spec_IsElement_tab := (.cons S_spec_l1In_ok .nil)
 refine wp_seq ?_
 refine at_regq [] { ts := [0, 2], os := [] } [] gamOK hT h (by kernel_rfl) trivial fun a w h => then_normal (wp_seq ?_)
 refine at_regq [] { ts := [2], os := [] } [True] gamOK hT h (by kernel_rfl) ⟨trivial, trivial⟩ fun a w h => then_normal (wp_ret ?_)
 exact at_return ((inR x0 0 1018), ()) [] h (by kernel_rfl) trivial (congrArg (fun z => (z, ())) (show ((inR x0 0 1018)) = isEl x0 from by first | rfl | (unfold isEl; rfl; done) | (unfold isEl; simp_all)))

def isKey (x0 : Int) : Bool := (inR x0 1 2147483646)
def S_spec_IsValidKey : Sum := { fid := 58, dom := [(.int 3)], cod := [(.bool 4)], dp := true, fz := false, pre := fun x => True, g := fun x => ((isKey x.1), ()) }
def S_spec_IsValidKey_tab : List (Nat × Sum) := [(36, S_spec_l1In)]
theorem S_spec_IsValidKey_ok : FnOK Tryz.prog 58 S_spec_IsValidKey := by
 refine at_enter 5 (fun x => ⟨[(0, aI x.1)], []⟩) Tryz.func58 rfl (by kernel_rfl) (fun x => rfl) ?_
 rintro w0 Z0 ⟨x0, u⟩ a w
 revert x0
 intro (x0 : Int) hpre hlens h
 have hT : TabOK Tryz.prog w0 [] S_spec_IsValidKey_tab := (.cons S_spec_l1In_ok .nil)
 refine wp_seq ?_
 refine at_regq [] { ts := [0, 2], os := [] } [] gamOK hT h (by kernel_rfl) trivial fun a w h => then_normal (wp_seq ?_)
 refine at_regq [] { ts := [2], os := [] } [True] gamOK hT h (by kernel_rfl) ⟨trivial, trivial⟩ fun a w h => then_normal (wp_ret ?_)
 exact at_return ((inR x0 1 2147483646), ()) [] h (by kernel_rfl) trivial (congrArg (fun z => (z, ())) (show ((inR x0 1 2147483646)) = isKey x0 from by rfl))
theorem isKey_t {x : Int} (h : isKey x = true) : 1 ≤ x ∧ x ≤ 2147483646 := inR_t h

abbrev Q__impl_CodedPacket_clone := (fun (x0 : T36) => Sh.fit s36 x0)
def S__impl_CodedPacket_clone : Sum := { fid := 22, dom := [s36], cod := [s36], dp := true, fz := false, pre := fun x => Q__impl_CodedPacket_clone x.1, g := fun x => (((idD s36) x.1), ()) }
def S__impl_CodedPacket_clone_tab : List (Nat × Sum) := [(40, S_slices_Clone_S_int_int_)]
theorem S__impl_CodedPacket_clone_ok : FnOK Tryz.prog 22 S__impl_CodedPacket_clone := by
 refine at_enter 12 (fun x => ⟨[(0, aG [cI x.1.1, .ro (.int 3) x.1.2.1, .ro (.int 3) x.1.2.2])], []⟩) Tryz.func22 rfl (by kernel_rfl) (fun x => rfl) ?_
 rintro w0 Z0 ⟨x0, u⟩ a w
 revert x0
 intro (x0 : T36) hpre hlens h
 replace hpre : Q__impl_CodedPacket_clone x0 := hpre
 have hT : TabOK Tryz.prog w0 [] S__impl_CodedPacket_clone_tab := (.cons S_slices_Clone_S_int_int__ok .nil)
 have hf0 : Sh.fit s36 x0 := hpre
 have hn0_1 : List.length x0.2.1 ≤ 1073741824 := hf0.2.1.1
 have hn0_2 : List.length x0.2.2 ≤ 1073741824 := hf0.2.2.1
 refine wp_seq ?_
 refine at_regq [{ ids := [1] }, { ids := [2] }] { ts := [1, 2], os := [1, 2] } [] gamOK hT h (by kernel_rfl) trivial fun a w h => then_normal (wp_seq ?_)
 refine at_anyq [{}, {}, {}, {}, { ids := [3] }, {}, {}, { ids := [4] }, {}, {}] { ts := [2], os := [2, 3, 4] } [(lenOK (α := Int)) x0.2.1, (lenOK (α := Int)) x0.2.2] gamOK hT mixed h (by kernel_rfl) ⟨(by first | assumption | trivial | (first | omega | (simp only [lsA]; omega) | (simp <;> omega))), (by first | assumption | trivial | (first | omega | (simp only [lsA]; omega) | (simp <;> omega))), trivial⟩ fun a w h => then_normal (wp_ret ?_)
 exact at_return (x0, ()) [] h (by kernel_rfl) trivial (congrArg (fun z => (z, ())) (show (x0) = (idD s36) x0 from by rfl))

def S_impl_EqualPackets : Sum := { fid := 27, dom := [s36, s36], cod := [(.bool 4)], dp := true, fz := false, pre := fun x => True, g := fun x => (((Sh.eqB s36) x.1 x.2.1), ()) }
def S_impl_EqualPackets_tab : List (Nat × Sum) := [(52, S_slices_Equal_S_int_int_)]
theorem S_impl_EqualPackets_ok : FnOK Tryz.prog 27 S_impl_EqualPackets := by
 refine at_enter 24 (fun x => ⟨[(0, aG [cI x.1.1, .ro (.int 3) x.1.2.1, .ro (.int 3) x.1.2.2]), (1, aG [cI x.2.1.1, .ro (.int 3) x.2.1.2.1, .ro (.int 3) x.2.1.2.2])], []⟩) Tryz.func27 rfl (by kernel_rfl) (fun x => rfl) ?_
 rintro w0 Z0 ⟨x0, x1, u⟩ a w
 revert x0 x1
 intro (x0 : T36) (x1 : T36) hpre hlens h
 have hl1 : List.length x0.2.1 ≤ 9223372036854775807 := hlens.1.2.1.1
 have hl2 : List.length x0.2.2 ≤ 9223372036854775807 := hlens.1.2.2.1
 have hl3 : List.length x1.2.1 ≤ 9223372036854775807 := hlens.2.1.2.1.1
 have hl4 : List.length x1.2.2 ≤ 9223372036854775807 := hlens.2.1.2.2.1
 have hT : TabOK Tryz.prog w0 [] S_impl_EqualPackets_tab := (.cons S_slices_Equal_S_int_int__ok .nil)
 refine wp_seq ?_
 refine at_regq [{ ids := [1] }, { ids := [2] }] { ts := [2, 3, 4], os := [1, 2] } [] gamOK hT h (by kernel_rfl) trivial fun a w h => then_normal (wp_seq ?_)
 by_cases h1 : x0.1 = x1.1
 ·rcases Bool.eq_false_or_eq_true (((Sh.eqB s27) x0.2.1 x1.2.1)) with h2 | h2
  ·refine at_regq [{}, {}, {}, {}, { hint := some (aB true) }, {}, {}, {}, {}, {}, { hint := some (aB true) }] { ts := [4], os := [] } [(AV.p (.c (.v (.bool (decide (x0.1 = x1.1))))) = AV.p (.c (.v (.bool true)))), True, (AV.p (.c (.v (.bool (((Sh.eqB s27) x0.2.1 x1.2.1))))) = AV.p (.c (.v (.bool true)))), True] gamOK hT h (by kernel_rfl) ⟨hint_bool (decide_eq_true h1), trivial, hint_bool (h2), trivial, trivial⟩ fun a w h => then_normal (wp_ret ?_)
   exact at_return (((Sh.eqB s27) x0.2.2 x1.2.2), ()) [] h (by kernel_rfl) trivial (congrArg (fun z => (z, ())) (show (((Sh.eqB s27) x0.2.2 x1.2.2)) = (Sh.eqB s36) x0 x1 from by (show _ = Sh.eqB s36 x0 x1; simp_all [Sh.eqB])))
  ·refine at_regq [{}, {}, {}, {}, { hint := some (aB true) }, {}, {}, {}, {}, {}, { hint := some (aB false) }] { ts := [4], os := [] } [(AV.p (.c (.v (.bool (decide (x0.1 = x1.1))))) = AV.p (.c (.v (.bool true)))), True, (AV.p (.c (.v (.bool (((Sh.eqB s27) x0.2.1 x1.2.1))))) = AV.p (.c (.v (.bool false))))] gamOK hT h (by kernel_rfl) ⟨hint_bool (decide_eq_true h1), trivial, hint_bool (h2), trivial⟩ fun a w h => then_normal (wp_ret ?_)
   exact at_return (false, ()) [] h (by kernel_rfl) trivial (congrArg (fun z => (z, ())) (show (false) = (Sh.eqB s36) x0 x1 from by (show _ = Sh.eqB s36 x0 x1; simp_all [Sh.eqB])))
 ·refine at_regq [{}, {}, {}, {}, { hint := some (aB false) }] { ts := [4], os := [] } [(AV.p (.c (.v (.bool (decide (x0.1 = x1.1))))) = AV.p (.c (.v (.bool false))))] gamOK hT h (by kernel_rfl) ⟨hint_bool (decide_eq_false h1), trivial⟩ fun a w h => then_normal (wp_ret ?_)
  exact at_return (false, ()) [] h (by kernel_rfl) trivial (congrArg (fun z => (z, ())) (show (false) = (Sh.eqB s36) x0 x1 from by (show _ = Sh.eqB s36 x0 x1; simp_all [Sh.eqB])))

theorem flat_take_le {α : Type} (xs : List (List α)) (i : Nat) : (List.flatten (xs.take i)).length ≤ (List.flatten xs).length := by
 have : (List.flatten xs).length = (List.flatten (xs.take i)).length + (List.flatten (xs.drop i)).length := by rw [← List.length_append, ← List.flatten_append, List.take_append_drop]
 omega
theorem flat_snoc {α : Type} {xs : List (List α)} {i : Nat} (h : i < xs.length) : List.flatten (xs.take (i + 1)) = List.flatten (xs.take i) ++ xs.getD i [] := by rw [take_snoc (z := []) h, List.flatten_append]; simp
def pCat (xs : List (List Int)) : Prop := xs.length ≤ 1073741824 ∧ (List.flatten xs).length ≤ 1099511627776
def pKey (_ : Int) (l : List Int) : Prop := l.length ≤ 4294967296
def hashS (d v : Int) : Int := (d * 1000003 + modF v 2147483647 + 13).tmod 2147483647
def hashF (l : List Int) : Int := l.foldl hashS 11
def keyed (k : Int) (l : List Int) : Int := hashF ([k] ++ l ++ [k])
theorem modF_bd (v : Int) : 0 ≤ modF v 2147483647 ∧ modF v 2147483647 < 2147483647 := by
 unfold modF
 rw [if_pos (by decide)]
 have h1 := (tmod_f v 2147483647 (by decide)).1
 have h2 := tmod_f (v.tmod 2147483647 + 2147483647) 2147483647 (by decide)
 omega
theorem hashS_bd {d : Int} (v : Int) (h : 0 ≤ d ∧ d < 2147483647) : 0 ≤ hashS d v ∧ hashS d v < 2147483647 := by
 unfold hashS
 have h1 := modF_bd v
 have h2 := tmod_f (d * 1000003 + modF v 2147483647 + 13) 2147483647 (by decide)
 omega
theorem hashTo_bd (l : List Int) : ∀ (d : Int), (0 ≤ d ∧ d < 2147483647) → 0 ≤ l.foldl hashS d ∧ l.foldl hashS d < 2147483647 := by
 induction l with
 | nil => intro d h; exact h
 | cons v l ih => intro d h; exact ih _ (hashS_bd v h)
theorem hash_bd (l : List Int) (i : Nat) : 0 ≤ foldTo hashS 11 l i ∧ foldTo hashS 11 l i < 2147483647 := hashTo_bd _ _ (by decide)
theorem hashF_bd (l : List Int) : 0 ≤ hashF l ∧ hashF l < 2147483647 := hashTo_bd _ _ (by decide)
theorem keyed_bd (k : Int) (l : List Int) : 0 ≤ keyed k l ∧ keyed k l < 2147483647 := hashF_bd _
def manMAC (s : Int) (m : T31) : Int := keyed s ([83, m.1, m.2.1, m.2.2.1, m.2.2.2.1] ++ m.2.2.2.2.1)
theorem manMAC_bd (s : Int) (m : T31) : 0 ≤ manMAC s m ∧ manMAC s m < 2147483647 := keyed_bd _ _
def linkMAC (k : Int) (l : T40) : Int := keyed k ([103, l.1, l.2.1, l.2.2.1, l.2.2.2.1.1, ((List.length l.2.2.2.1.2.1 : Nat) : Int)] ++ l.2.2.2.1.2.1 ++ l.2.2.2.1.2.2)
def D_slices_Grow_S_int_int__nil := (fun (_ : Unit) (n : Int) => ([] : List Int))
abbrev Q_slices_Grow_S_int_int__nil := (fun (_ : Unit) (n : Int) => 0 ≤ n ∧ n ≤ 1099511627776)
def S_slices_Grow_S_int_int__nil : Sum := { fid := 54, dom := [(.fn0 4294967295), (.int 3)], cod := [s27], dp := true, fz := false, pre := fun x => Q_slices_Grow_S_int_int__nil x.1 x.2.1, g := fun x => ((D_slices_Grow_S_int_int__nil x.1 x.2.1), ()) }
def S_slices_Grow_S_int_int__nil_tab : List (Nat × Sum) := []
theorem S_slices_Grow_S_int_int__nil_ok : FnOK Tryz.prog 54 S_slices_Grow_S_int_int__nil := by
 refine at_enter 27 (fun x => ⟨[(0, .p (.c (cN))), (1, aI x.2.1)], []⟩) Tryz.func54 rfl (by kernel_rfl) (fun x => rfl) ?_
 rintro w0 Z0 ⟨x0, x1, u⟩ a w
 revert x0 x1
 intro (x0 : Unit) (x1 : Int) hpre hlens h
 replace hpre : Q_slices_Grow_S_int_int__nil x0 x1 := hpre
 have hT : TabOK Tryz.prog w0 [] S_slices_Grow_S_int_int__nil_tab := .nil
 have hp : 0 ≤ x1 ∧ x1 ≤ 1099511627776 := hpre
 refine wp_seq ?_
 refine at_regq [] { ts := [0, 1, 4], os := [] } [] gamOK hT h (by kernel_rfl) trivial fun a w h => then_normal (wp_seq (wp_seq ?_))
 refine at_regq [] { ts := [0, 1, 4, 6], os := [] } [] gamOK hT h (by kernel_rfl) trivial fun a w h => then_normal ?_
 refine at_test (decide (x1 < 0)) h (by kernel_rfl) (fun h1 => ?_) (fun h1 => ?_)
 ·replace h1 : x1 < 0 := of_decide_eq_true h1
  exfalso; omega
 ·replace h1 : ¬ (x1 < 0) := of_decide_eq_false h1
  refine wp_skip (then_normal (wp_seq (wp_seq ?_)))
  refine at_regq [{}, {}, {}, {}, {}, { nw := true }, { nw := true }] { ts := [0, 1, 4], os := [] } [I64 (0 - 0), I64 (x1 - (0 - 0))] gamOK hT h (by kernel_rfl) ⟨⟨by first | omega | (simp only [lsA]; omega) | (simp <;> omega), by first | omega | (simp only [lsA]; omega) | (simp <;> omega)⟩, ⟨by first | omega | (simp only [lsA]; omega) | (simp <;> omega), by first | omega | (simp only [lsA]; omega) | (simp <;> omega)⟩, trivial⟩ fun a w h => then_normal (wp_seq ?_)
  refine at_regq [] { ts := [0, 1, 4, 16], os := [] } [] gamOK hT h (by kernel_rfl) trivial fun a w h => then_normal ?_
  refine at_test (decide (x1 - (0 - 0) > 0)) h (by kernel_rfl) (fun h2 => ?_) (fun h2 => ?_)
  ·replace h2 : x1 - (0 - 0) > 0 := of_decide_eq_true h2
   refine at_regq [{}, {}, {}, {}, {}, { ids := [1] }, {}, {}, { ids := [2] }] { ts := [0, 4], os := [2] } [(0 : Int) ≤ 0 ∧ (0 : Int) ≤ 0 ∧ (0 : Int) ≤ 0, (0 : Int) < x1 - (0 - 0) ∧ (x1 - (0 - 0)) * (8 : Nat) ≤ (140737488355328 : Int), (0 : Int) ≤ 0 ∧ 0 ≤ ((List.length (List.replicate ((x1 - (0 - 0)).toNat) (0 : Int)) : Nat) : Int)] gamOK hT h (by kernel_rfl) ⟨(by refine ⟨?_, ?_, ?_⟩ <;> (first | omega | (simp only [lsA]; omega) | (simp <;> omega))), (by refine ⟨?_, ?_⟩ <;> ((have hA0 := mul_f (x1 - (0 - 0)) (8 : Nat); first | omega | (simp only [lsA]; omega) | (simp <;> omega)))), (by refine ⟨?_, ?_⟩ <;> (first | omega | (simp only [lsA]; omega) | (simp <;> omega))), trivial⟩ fun a w h => then_normal (wp_seq ?_)
   refine at_regq [] { ts := [4], os := [2] } [] gamOK hT h (by kernel_rfl) trivial fun a w h => then_normal (wp_ret ?_)
   exact at_return ((List.take 0 (List.replicate ((x1 - (0 - 0)).toNat) (0 : Int))), ()) [] h (by kernel_rfl) trivial (congrArg (fun z => (z, ())) (show ((List.take 0 (List.replicate ((x1 - (0 - 0)).toNat) (0 : Int)))) = D_slices_Grow_S_int_int__nil x0 x1 from by unfold D_slices_Grow_S_int_int__nil; first | rfl | simp))
  ·replace h2 : ¬ (x1 - (0 - 0) > 0) := of_decide_eq_false h2
   refine wp_skip (then_normal (wp_seq ?_))
   refine at_regq [] { ts := [4], os := [] } [] gamOK hT h (by kernel_rfl) trivial fun a w h => then_normal (wp_ret ?_)
   exact at_return (([] : List Int), ()) [] h (by kernel_rfl) trivial (congrArg (fun z => (z, ())) (show (([] : List Int)) = D_slices_Grow_S_int_int__nil x0 x1 from by unfold D_slices_Grow_S_int_int__nil; first | rfl | simp))

def D_slices_Concat_S_int_int_ := (fun (xs : List (List Int)) => List.flatten xs)
def S_slices_Concat_S_int_int_ : Sum := { fid := 29, dom := [s24], cod := [s27], dp := true, fz := false, pre := fun x => pCat x.1, g := fun x => ((D_slices_Concat_S_int_int_ x.1), ()) }
def S_slices_Concat_S_int_int__tab : List (Nat × Sum) := [(100001, S_slices_Grow_S_int_int__nil)]
theorem S_slices_Concat_S_int_int__ok : FnOK Tryz.prog 29 S_slices_Concat_S_int_int_ := by
 refine at_enter 36 (fun x => ⟨[(0, aF s27 x.1)], []⟩) Tryz.func29 rfl (by kernel_rfl) (fun x => rfl) ?_
 rintro w0 Z0 ⟨x0, u⟩ a w
 revert x0
 intro (x0 : (List (List Int))) hpre hlens h
 replace hpre : pCat x0 := hpre
 have hl1 : List.length x0 ≤ 9223372036854775807 := hlens.1.1
 have hT : TabOK Tryz.prog w0 [] S_slices_Concat_S_int_int__tab := (.cons S_slices_Grow_S_int_int__nil_ok .nil)
 have hp : List.length x0 ≤ 1073741824 ∧ List.length (List.flatten x0) ≤ 1099511627776 := hpre
 refine wp_seq ?_
 refine at_regq [] { ts := [0, 2], os := [] } [] gamOK hT h (by kernel_rfl) trivial fun a w h => then_normal (wp_seq ?_)
 refine at_regq [] { ts := [0, 2, 3], os := [] } [] gamOK hT h (by kernel_rfl) trivial fun a w h => then_normal (wp_seq (wp_seq ?_))
 refine at_regq [] { ts := [0, 2, 3, 9, 10, 11], os := [] } [] gamOK hT h (by kernel_rfl) trivial fun a w h => then_normal (wp_block ?_)
 replace h := at_out (σ' := ⟨[(0, aF s27 x0), (2, .p (.c (cN))), (3, aI 0), (9, aF s27 x0), (10, aI ((List.length x0 : Nat) : Int)), (11, aI 0)], []⟩) { ts := [0, 2, 3, 9, 10, 11], os := [] } h (by kernel_rfl)
 refine at_loop (fun i : Nat => (⟨[(0, aF s27 x0), (2, .p (.c (cN))), (3, aI ((List.length (List.flatten (List.take i x0)) : Nat) : Int)), (9, aF s27 x0), (10, aI ((List.length x0 : Nat) : Int)), (11, aI ((i : Nat) : Int))], []⟩ : St)) (fun i => i ≤ List.length x0) (fun i => List.length x0 - i) (0) h (st_congr2 (fun (d0 : Int) (d1 : Int) => (⟨[(0, aF s27 x0), (2, .p (.c (cN))), (3, aI d0), (9, aF s27 x0), (10, aI ((List.length x0 : Nat) : Int)), (11, aI d1)], []⟩ : St)) (show (0 : Int) = ((List.length (List.flatten (List.take (0) x0)) : Nat) : Int) from by first | with_reducible rfl | (rfl) | rfl) (show (0 : Int) = (((0) : Nat) : Int) from by first | with_reducible rfl | (rfl) | rfl)) (by omega) ?_
 intro i a w hok0 h
 have hft := flat_take_le x0 i
 refine wp_seq ?_
 refine at_regq [] { ts := [0, 2, 3, 9, 10, 11, 12], os := [] } [] gamOK hT h (by kernel_rfl) trivial fun a w h => then_normal (wp_seq ?_)
 refine at_test (decide (((i : Nat) : Int) < ((List.length x0 : Nat) : Int))) h (by kernel_rfl) (fun h1 => ?_) (fun h1 => ?_)
 ·replace h1 : ((i : Nat) : Int) < ((List.length x0 : Nat) : Int) := of_decide_eq_true h1
  have hfs := flat_snoc (xs := x0) (i := i) (by omega)
  have hft1 := flat_take_le x0 (i + 1)
  rw [hfs, List.length_append] at hft1
  refine wp_skip (then_normal (wp_seq (wp_block (wp_seq ?_))))
  refine at_regq [] { ts := [0, 2, 3, 5, 9, 10, 11], os := [] } [(0 : Int) ≤ ((i : Nat) : Int) ∧ ((i : Nat) : Int) < ((List.length x0 : Nat) : Int)] gamOK hT h (by kernel_rfl) ⟨(by refine ⟨?_, ?_⟩ <;> (first | omega | (simp only [lsA]; omega) | (simp <;> omega))), trivial⟩ fun a w h => then_normal (wp_seq ?_)
  refine at_regq [{}, {}, {}, { nw := true }] { ts := [0, 2, 3, 9, 10, 11], os := [] } [I64 (((List.length (List.flatten (List.take i x0)) : Nat) : Int) + ((List.length (x0.getD i []) : Nat) : Int))] gamOK hT h (by kernel_rfl) ⟨⟨by first | omega | (simp only [lsA]; omega) | (simp <;> omega), by first | omega | (simp only [lsA]; omega) | (simp <;> omega)⟩, trivial⟩ fun a w h => then_normal (wp_seq ?_)
  refine at_regq [] { ts := [0, 2, 3, 9, 10, 11, 20], os := [] } [] gamOK hT h (by kernel_rfl) trivial fun a w h => then_normal ?_
  refine at_test (decide (((List.length (List.flatten (List.take i x0)) : Nat) : Int) + ((List.length (x0.getD i []) : Nat) : Int) < 0)) h (by kernel_rfl) (fun h2 => ?_) (fun h2 => ?_)
  ·replace h2 : ((List.length (List.flatten (List.take i x0)) : Nat) : Int) + ((List.length (x0.getD i []) : Nat) : Int) < 0 := of_decide_eq_true h2
   exfalso; omega
  ·replace h2 : ¬ (((List.length (List.flatten (List.take i x0)) : Nat) : Int) + ((List.length (x0.getD i []) : Nat) : Int) < 0) := of_decide_eq_false h2
   refine wp_skip (in_normal (then_normal ?_))
   refine at_regq [{ nw := true }] { ts := [0, 2, 3, 9, 10, 11], os := [] } [I64 (((i : Nat) : Int) + 1)] gamOK hT h (by kernel_rfl) ⟨⟨by first | omega | (simp only [lsA]; omega) | (simp <;> omega), by first | omega | (simp only [lsA]; omega) | (simp <;> omega)⟩, trivial⟩ fun a w h => ?_
   replace h := at_out (σ' := ⟨[(0, aF s27 x0), (2, .p (.c (cN))), (3, aI (((List.length (List.flatten (List.take i x0)) : Nat) : Int) + ((List.length (x0.getD i []) : Nat) : Int))), (9, aF s27 x0), (10, aI ((List.length x0 : Nat) : Int)), (11, aI (((i : Nat) : Int) + 1))], []⟩) { ts := [0, 2, 3, 9, 10, 11], os := [] } h (by kernel_rfl)
   exact ⟨i + 1, at_eq h (st_congr2 (fun (d0 : Int) (d1 : Int) => (⟨[(0, aF s27 x0), (2, .p (.c (cN))), (3, aI d0), (9, aF s27 x0), (10, aI ((List.length x0 : Nat) : Int)), (11, aI d1)], []⟩ : St)) (show (((List.length (List.flatten (List.take i x0)) : Nat) : Int) + ((List.length (x0.getD i []) : Nat) : Int) : Int) = ((List.length (List.flatten (List.take (i + 1) x0)) : Nat) : Int) from by first | with_reducible rfl | (rw [flat_snoc (by omega), List.length_append]; omega) | rfl) (show (((i : Nat) : Int) + 1 : Int) = (((i + 1) : Nat) : Int) from by first | with_reducible rfl | (omega) | rfl)), (by omega), (by omega)⟩
 ·replace h1 : ¬ (((i : Nat) : Int) < ((List.length x0 : Nat) : Int)) := of_decide_eq_false h1
  refine wp_exit (then_exit ?_)
  replace h := at_out (σ' := ⟨[(0, aF s27 x0), (2, .p (.c (cN))), (3, aI ((List.length (List.flatten (List.take i x0)) : Nat) : Int))], []⟩) { ts := [0, 2, 3], os := [] } h (by kernel_rfl)
  replace h := at_eq (σ' := ⟨[(0, aF s27 x0), (2, .p (.c (cN))), (3, aI ((List.length (List.flatten x0) : Nat) : Int))], []⟩) h (st_congr1 (fun (d0 : Int) => (⟨[(0, aF s27 x0), (2, .p (.c (cN))), (3, aI d0)], []⟩ : St)) (show (((List.length (List.flatten (List.take i x0)) : Nat) : Int) : Int) = ((List.length (List.flatten x0) : Nat) : Int) from by first | with_reducible rfl | (rw [take_all (by omega)]) | rfl))
  refine then_exit (in_hit (then_normal (wp_seq ?_)))
  refine at_regq [{}, { ids := [1], key := some 100001 }] { ts := [0, 2, 6], os := [1] } [Q_slices_Grow_S_int_int__nil () ((List.length (List.flatten x0) : Nat) : Int)] gamOK hT h (by kernel_rfl) ⟨(by (show (0 : Int) ≤ _ ∧ _ ≤ (1099511627776 : Int); omega)), trivial⟩ fun a w h => then_normal (wp_seq (wp_seq ?_))
  refine at_regq [] { ts := [2, 6, 25, 26, 27], os := [1] } [] gamOK hT h (by kernel_rfl) trivial fun a w h => then_normal (wp_block ?_)
  replace h := at_out (σ' := ⟨[(2, .p (.c (cN))), (6, aS 1), (25, aF s27 x0), (26, aI ((List.length x0 : Nat) : Int)), (27, aI 0)], [(1, oR (.int 3) (D_slices_Grow_S_int_int__nil () ((List.length (List.flatten x0) : Nat) : Int)))]⟩) { ts := [2, 6, 25, 26, 27], os := [1] } h (by kernel_rfl)
  refine at_loop (fun i : Nat => (⟨[(2, .p (.c (cN))), (6, aS 1), (25, aF s27 x0), (26, aI ((List.length x0 : Nat) : Int)), (27, aI ((i : Nat) : Int))], [(1, oR (.int 3) (List.flatten (List.take i x0)))]⟩ : St)) (fun i => i ≤ List.length x0) (fun i => List.length x0 - i) (0) h (st_congr2 (fun (d0 : List Int) (d1 : Int) => (⟨[(2, .p (.c (cN))), (6, aS 1), (25, aF s27 x0), (26, aI ((List.length x0 : Nat) : Int)), (27, aI d1)], [(1, oR (.int 3) d0)]⟩ : St)) (show ((D_slices_Grow_S_int_int__nil () ((List.length (List.flatten x0) : Nat) : Int)) : List Int) = (List.flatten (List.take (0) x0)) from by first | with_reducible rfl | (rfl) | rfl) (show (0 : Int) = (((0) : Nat) : Int) from by first | with_reducible rfl | (rfl) | rfl)) (by omega) ?_
  intro i a w hok1 h
  have hft := flat_take_le x0 i
  refine wp_seq ?_
  refine at_regq [] { ts := [2, 6, 25, 26, 27, 28], os := [1] } [] gamOK hT h (by kernel_rfl) trivial fun a w h => then_normal (wp_seq ?_)
  refine at_test (decide (((i : Nat) : Int) < ((List.length x0 : Nat) : Int))) h (by kernel_rfl) (fun h3 => ?_) (fun h3 => ?_)
  ·replace h3 : ((i : Nat) : Int) < ((List.length x0 : Nat) : Int) := of_decide_eq_true h3
   have hfs := flat_snoc (xs := x0) (i := i) (by omega)
   have hft1 := flat_take_le x0 (i + 1)
   rw [hfs, List.length_append] at hft1
   refine wp_skip (then_normal (wp_seq (wp_block (wp_seq ?_))))
   refine at_regq [] { ts := [2, 6, 8, 25, 26, 27], os := [1] } [(0 : Int) ≤ ((i : Nat) : Int) ∧ ((i : Nat) : Int) < ((List.length x0 : Nat) : Int)] gamOK hT h (by kernel_rfl) ⟨(by refine ⟨?_, ?_⟩ <;> (first | omega | (simp only [lsA]; omega) | (simp <;> omega))), trivial⟩ fun a w h => then_normal ?_
   refine at_regq [{}, {}, { ids := [2] }] { ts := [2, 6, 25, 26, 27], os := [2] } [(List.length (List.flatten (List.take i x0)) + List.length (x0.getD i [])) * 8 ≤ 140737488355328] gamOK hT h (by kernel_rfl) ⟨(by first | omega | (simp only [lsA]; omega) | (simp <;> omega)), trivial⟩ fun a w h => in_normal (then_normal ?_)
   refine at_regq [{ nw := true }] { ts := [2, 6, 25, 26, 27], os := [2] } [I64 (((i : Nat) : Int) + 1)] gamOK hT h (by kernel_rfl) ⟨⟨by first | omega | (simp only [lsA]; omega) | (simp <;> omega), by first | omega | (simp only [lsA]; omega) | (simp <;> omega)⟩, trivial⟩ fun a w h => ?_
   replace h := at_out (σ' := ⟨[(2, .p (.c (cN))), (6, aS 1), (25, aF s27 x0), (26, aI ((List.length x0 : Nat) : Int)), (27, aI (((i : Nat) : Int) + 1))], [(1, oR (.int 3) ((List.flatten (List.take i x0)) ++ (x0.getD i [])))]⟩) { ts := [2, 6, 25, 26, 27], os := [2], rn := [(2, 1)] } h (by kernel_rfl)
   exact ⟨i + 1, at_eq h (st_congr2 (fun (d0 : List Int) (d1 : Int) => (⟨[(2, .p (.c (cN))), (6, aS 1), (25, aF s27 x0), (26, aI ((List.length x0 : Nat) : Int)), (27, aI d1)], [(1, oR (.int 3) d0)]⟩ : St)) (show (((List.flatten (List.take i x0)) ++ (x0.getD i [])) : List Int) = (List.flatten (List.take (i + 1) x0)) from by first | with_reducible rfl | (rw [flat_snoc (by omega)]) | rfl) (show (((i : Nat) : Int) + 1 : Int) = (((i + 1) : Nat) : Int) from by first | with_reducible rfl | (omega) | rfl)), (by omega), (by omega)⟩
  ·replace h3 : ¬ (((i : Nat) : Int) < ((List.length x0 : Nat) : Int)) := of_decide_eq_false h3
   refine wp_exit (then_exit ?_)
   replace h := at_out (σ' := ⟨[(2, .p (.c (cN))), (6, aS 1)], [(1, oR (.int 3) (List.flatten (List.take i x0)))]⟩) { ts := [2, 6], os := [1] } h (by kernel_rfl)
   replace h := at_eq (σ' := ⟨[(2, .p (.c (cN))), (6, aS 1)], [(1, oR (.int 3) (List.flatten x0))]⟩) h (st_congr1 (fun (d0 : List Int) => (⟨[(2, .p (.c (cN))), (6, aS 1)], [(1, oR (.int 3) d0)]⟩ : St)) (show ((List.flatten (List.take i x0)) : List Int) = (List.flatten x0) from by first | with_reducible rfl | (rw [take_all (by omega)]) | rfl))
   refine then_exit (in_hit (then_normal (wp_seq ?_)))
   refine at_regq [] { ts := [2], os := [1] } [] gamOK hT h (by kernel_rfl) trivial fun a w h => then_normal (wp_ret ?_)
   exact at_return ((List.flatten x0), ()) [] h (by kernel_rfl) trivial (congrArg (fun z => (z, ())) (show ((List.flatten x0)) = D_slices_Concat_S_int_int_ x0 from by unfold D_slices_Concat_S_int_int_; rfl))

def S_impl_Hash : Sum := { fid := 53, dom := [s27], cod := [(.int 3)], dp := true, fz := false, pre := fun x => True, g := fun x => ((hashF x.1), ()) }
def S_impl_Hash_tab : List (Nat × Sum) := [(72, S_impl_Mod)]
theorem S_impl_Hash_ok : FnOK Tryz.prog 53 S_impl_Hash := by
 refine at_enter 21 (fun x => ⟨[(0, aF (.int 3) x.1)], []⟩) Tryz.func53 rfl (by kernel_rfl) (fun x => rfl) ?_
 rintro w0 Z0 ⟨x0, u⟩ a w
 revert x0
 intro (x0 : (List Int)) hpre hlens h
 have hl1 : List.length x0 ≤ 9223372036854775807 := hlens.1.1
 have hT : TabOK Tryz.prog w0 [] S_impl_Hash_tab := (.cons S_impl_Mod_ok .nil)
 refine wp_seq ?_
 refine at_regq [] { ts := [0, 2], os := [] } [] gamOK hT h (by kernel_rfl) trivial fun a w h => then_normal (wp_seq ?_)
 refine at_regq [] { ts := [0, 2, 3], os := [] } [] gamOK hT h (by kernel_rfl) trivial fun a w h => then_normal (wp_seq (wp_seq ?_))
 refine at_regq [] { ts := [2, 3, 6, 7, 8], os := [] } [] gamOK hT h (by kernel_rfl) trivial fun a w h => then_normal (wp_block ?_)
 replace h := at_out (σ' := ⟨[(2, aI 0), (3, aI 11), (6, aF (.int 3) x0), (7, aI ((List.length x0 : Nat) : Int)), (8, aI 0)], []⟩) { ts := [2, 3, 6, 7, 8], os := [] } h (by kernel_rfl)
 refine at_loop (fun i : Nat => (⟨[(2, aI 0), (3, aI (foldTo hashS 11 x0 i)), (6, aF (.int 3) x0), (7, aI ((List.length x0 : Nat) : Int)), (8, aI ((i : Nat) : Int))], []⟩ : St)) (fun i => i ≤ List.length x0) (fun i => List.length x0 - i) (0) h (st_congr2 (fun (d0 : Int) (d1 : Int) => (⟨[(2, aI 0), (3, aI d0), (6, aF (.int 3) x0), (7, aI ((List.length x0 : Nat) : Int)), (8, aI d1)], []⟩ : St)) (show (11 : Int) = (foldTo hashS 11 x0 (0)) from by first | with_reducible rfl | (first | rfl | simp) | rfl) (show (0 : Int) = (((0) : Nat) : Int) from by first | with_reducible rfl | (first | rfl | simp) | rfl)) (by omega) ?_
 intro i a w hok0 h
 have hbd := hash_bd x0 i
 refine wp_seq ?_
 refine at_regq [] { ts := [2, 3, 6, 7, 8, 9], os := [] } [] gamOK hT h (by kernel_rfl) trivial fun a w h => then_normal (wp_seq ?_)
 refine at_test (decide (((i : Nat) : Int) < ((List.length x0 : Nat) : Int))) h (by kernel_rfl) (fun h1 => ?_) (fun h1 => ?_)
 ·replace h1 : ((i : Nat) : Int) < ((List.length x0 : Nat) : Int) := of_decide_eq_true h1
  have hmb := modF_bd (x0.getD i 0)
  refine wp_skip (then_normal (wp_seq (wp_block (wp_seq ?_))))
  refine at_regq [] { ts := [2, 3, 5, 6, 7, 8], os := [] } [(0 : Int) ≤ ((i : Nat) : Int) ∧ ((i : Nat) : Int) < ((List.length x0 : Nat) : Int)] gamOK hT h (by kernel_rfl) ⟨(by refine ⟨?_, ?_⟩ <;> (first | omega | (simp only [lsA]; omega) | (simp <;> omega))), trivial⟩ fun a w h => then_normal ?_
  refine at_regq [{}, { nw := true }, {}, {}, { nw := true }, { nw := true }] { ts := [2, 3, 6, 7, 8], os := [] } [I64 ((foldTo hashS 11 x0 i) * 1000003), True, I64 (((foldTo hashS 11 x0 i) * 1000003) + (modF (x0.getD i 0) 2147483647)), I64 ((((foldTo hashS 11 x0 i) * 1000003) + (modF (x0.getD i 0) 2147483647)) + 13), (2147483647 : Int) ≠ 0] gamOK hT h (by kernel_rfl) ⟨⟨by first | omega | (simp only [lsA]; omega) | (simp <;> omega), by first | omega | (simp only [lsA]; omega) | (simp <;> omega)⟩, trivial, ⟨by first | omega | (simp only [lsA]; omega) | (simp <;> omega), by first | omega | (simp only [lsA]; omega) | (simp <;> omega)⟩, ⟨by first | omega | (simp only [lsA]; omega) | (simp <;> omega), by first | omega | (simp only [lsA]; omega) | (simp <;> omega)⟩, (by first | omega | (simp only [lsA]; omega) | (simp <;> omega)), trivial⟩ fun a w h => in_normal (then_normal ?_)
  refine at_regq [{ nw := true }] { ts := [2, 3, 6, 7, 8], os := [] } [I64 (((i : Nat) : Int) + 1)] gamOK hT h (by kernel_rfl) ⟨⟨by first | omega | (simp only [lsA]; omega) | (simp <;> omega), by first | omega | (simp only [lsA]; omega) | (simp <;> omega)⟩, trivial⟩ fun a w h => ?_
  replace h := at_out (σ' := ⟨[(2, aI 0), (3, aI (Int.tmod ((((foldTo hashS 11 x0 i) * 1000003) + (modF (x0.getD i 0) 2147483647)) + 13) 2147483647)), (6, aF (.int 3) x0), (7, aI ((List.length x0 : Nat) : Int)), (8, aI (((i : Nat) : Int) + 1))], []⟩) { ts := [2, 3, 6, 7, 8], os := [] } h (by kernel_rfl)
  exact ⟨i + 1, at_eq h (st_congr2 (fun (d0 : Int) (d1 : Int) => (⟨[(2, aI 0), (3, aI d0), (6, aF (.int 3) x0), (7, aI ((List.length x0 : Nat) : Int)), (8, aI d1)], []⟩ : St)) (show ((Int.tmod ((((foldTo hashS 11 x0 i) * 1000003) + (modF (x0.getD i 0) 2147483647)) + 13) 2147483647) : Int) = (foldTo hashS 11 x0 (i + 1)) from by first | with_reducible rfl | (rw [foldTo_succ 0 (by omega)]; first | rfl | (simp_all; done)) | rfl) (show (((i : Nat) : Int) + 1 : Int) = (((i + 1) : Nat) : Int) from by first | with_reducible rfl | (omega) | rfl)), (by omega), (by omega)⟩
 ·replace h1 : ¬ (((i : Nat) : Int) < ((List.length x0 : Nat) : Int)) := of_decide_eq_false h1
  refine wp_exit (then_exit ?_)
  replace h := at_out (σ' := ⟨[(2, aI 0), (3, aI (foldTo hashS 11 x0 i))], []⟩) { ts := [2, 3], os := [] } h (by kernel_rfl)
  replace h := at_eq (σ' := ⟨[(2, aI 0), (3, aI (List.foldl hashS 11 x0))], []⟩) h (st_congr1 (fun (d0 : Int) => (⟨[(2, aI 0), (3, aI d0)], []⟩ : St)) (show ((foldTo hashS 11 x0 i) : Int) = (List.foldl hashS 11 x0) from by first | with_reducible rfl | (rw [foldTo_all (by omega)]) | rfl))
  refine then_exit (in_hit (then_normal (wp_seq ?_)))
  refine at_regq [] { ts := [2], os := [] } [] gamOK hT h (by kernel_rfl) trivial fun a w h => then_normal (wp_ret ?_)
  exact at_return ((List.foldl hashS 11 x0), ()) [] h (by kernel_rfl) trivial (congrArg (fun z => (z, ())) (show ((List.foldl hashS 11 x0)) = hashF x0 from by rfl))

def S_spec_Hash : Sum := { fid := 93, dom := [s27], cod := [(.int 3)], dp := true, fz := false, pre := fun x => True, g := fun x => ((hashF x.1), ()) }
def S_spec_Hash_tab : List (Nat × Sum) := [(101, S_spec_Mod)]
theorem S_spec_Hash_ok : FnOK Tryz.prog 93 S_spec_Hash := by
 refine at_enter 22 (fun x => ⟨[(0, aF (.int 3) x.1)], []⟩) Tryz.func93 rfl (by kernel_rfl) (fun x => rfl) ?_
 rintro w0 Z0 ⟨x0, u⟩ a w
 revert x0
 intro (x0 : (List Int)) hpre hlens h
 have hl1 : List.length x0 ≤ 9223372036854775807 := hlens.1.1
 have hT : TabOK Tryz.prog w0 [] S_spec_Hash_tab := (.cons S_spec_Mod_ok .nil)
 refine wp_seq ?_
 refine at_regq [] { ts := [0, 2], os := [] } [] gamOK hT h (by kernel_rfl) trivial fun a w h => then_normal (wp_seq ?_)
 refine at_regq [] { ts := [0, 2, 3], os := [] } [] gamOK hT h (by kernel_rfl) trivial fun a w h => then_normal (wp_seq (wp_seq ?_))
 refine at_regq [] { ts := [0, 2, 3, 4], os := [] } [] gamOK hT h (by kernel_rfl) trivial fun a w h => then_normal (wp_block ?_)
 replace h := at_out (σ' := ⟨[(0, aF (.int 3) x0), (2, aI 0), (3, aI 11), (4, aI 0)], []⟩) { ts := [0, 2, 3, 4], os := [] } h (by kernel_rfl)
 refine at_loop (fun i : Nat => (⟨[(0, aF (.int 3) x0), (2, aI 0), (3, aI (foldTo hashS 11 x0 i)), (4, aI ((i : Nat) : Int))], []⟩ : St)) (fun i => i ≤ List.length x0) (fun i => List.length x0 - i) (0) h (st_congr2 (fun (d0 : Int) (d1 : Int) => (⟨[(0, aF (.int 3) x0), (2, aI 0), (3, aI d0), (4, aI d1)], []⟩ : St)) (show (11 : Int) = (foldTo hashS 11 x0 (0)) from by first | with_reducible rfl | (first | rfl | simp) | rfl) (show (0 : Int) = (((0) : Nat) : Int) from by first | with_reducible rfl | (first | rfl | simp) | rfl)) (by omega) ?_
 intro i a w hok0 h
 have hbd := hash_bd x0 i
 refine wp_seq (wp_seq ?_)
 refine at_regq [] { ts := [0, 2, 3, 4, 8], os := [] } [] gamOK hT h (by kernel_rfl) trivial fun a w h => then_normal ?_
 refine at_test (decide (((i : Nat) : Int) < ((List.length x0 : Nat) : Int))) h (by kernel_rfl) (fun h1 => ?_) (fun h1 => ?_)
 ·replace h1 : ((i : Nat) : Int) < ((List.length x0 : Nat) : Int) := of_decide_eq_true h1
  have hmb := modF_bd (x0.getD i 0)
  refine wp_skip (then_normal (wp_seq (wp_block ?_)))
  refine at_regq [{}, { nw := true }, {}, {}, {}, {}, {}, { nw := true }, { nw := true }] { ts := [0, 2, 3, 4], os := [] } [I64 ((foldTo hashS 11 x0 i) * 1000003), (0 : Int) ≤ ((i : Nat) : Int) ∧ ((i : Nat) : Int) < ((List.length x0 : Nat) : Int), True, I64 (((foldTo hashS 11 x0 i) * 1000003) + (modF (x0.getD i 0) 2147483647)), I64 ((((foldTo hashS 11 x0 i) * 1000003) + (modF (x0.getD i 0) 2147483647)) + 13), (2147483647 : Int) ≠ 0] gamOK hT h (by kernel_rfl) ⟨⟨by first | omega | (simp only [lsA]; omega) | (simp <;> omega), by first | omega | (simp only [lsA]; omega) | (simp <;> omega)⟩, (by refine ⟨?_, ?_⟩ <;> (first | omega | (simp only [lsA]; omega) | (simp <;> omega))), trivial, ⟨by first | omega | (simp only [lsA]; omega) | (simp <;> omega), by first | omega | (simp only [lsA]; omega) | (simp <;> omega)⟩, ⟨by first | omega | (simp only [lsA]; omega) | (simp <;> omega), by first | omega | (simp only [lsA]; omega) | (simp <;> omega)⟩, (by first | omega | (simp only [lsA]; omega) | (simp <;> omega)), trivial⟩ fun a w h => in_normal (then_normal ?_)
  refine at_regq [{}, { nw := true }] { ts := [0, 2, 3, 4], os := [] } [I64 (((i : Nat) : Int) + 1)] gamOK hT h (by kernel_rfl) ⟨⟨by first | omega | (simp only [lsA]; omega) | (simp <;> omega), by first | omega | (simp only [lsA]; omega) | (simp <;> omega)⟩, trivial⟩ fun a w h => ?_
  replace h := at_out (σ' := ⟨[(0, aF (.int 3) x0), (2, aI 0), (3, aI (Int.tmod ((((foldTo hashS 11 x0 i) * 1000003) + (modF (x0.getD i 0) 2147483647)) + 13) 2147483647)), (4, aI (((i : Nat) : Int) + 1))], []⟩) { ts := [0, 2, 3, 4], os := [] } h (by kernel_rfl)
  exact ⟨i + 1, at_eq h (st_congr2 (fun (d0 : Int) (d1 : Int) => (⟨[(0, aF (.int 3) x0), (2, aI 0), (3, aI d0), (4, aI d1)], []⟩ : St)) (show ((Int.tmod ((((foldTo hashS 11 x0 i) * 1000003) + (modF (x0.getD i 0) 2147483647)) + 13) 2147483647) : Int) = (foldTo hashS 11 x0 (i + 1)) from by first | with_reducible rfl | (rw [foldTo_succ 0 (by omega)]; first | rfl | (simp_all; done)) | rfl) (show (((i : Nat) : Int) + 1 : Int) = (((i + 1) : Nat) : Int) from by first | with_reducible rfl | (omega) | rfl)), (by omega), (by omega)⟩
 ·replace h1 : ¬ (((i : Nat) : Int) < ((List.length x0 : Nat) : Int)) := of_decide_eq_false h1
  refine wp_exit (then_exit ?_)
  replace h := at_out (σ' := ⟨[(2, aI 0), (3, aI (foldTo hashS 11 x0 i))], []⟩) { ts := [2, 3], os := [] } h (by kernel_rfl)
  replace h := at_eq (σ' := ⟨[(2, aI 0), (3, aI (List.foldl hashS 11 x0))], []⟩) h (st_congr1 (fun (d0 : Int) => (⟨[(2, aI 0), (3, aI d0)], []⟩ : St)) (show ((foldTo hashS 11 x0 i) : Int) = (List.foldl hashS 11 x0) from by first | with_reducible rfl | (rw [foldTo_all (by omega)]) | rfl))
  refine then_exit (in_hit (then_normal (wp_seq ?_)))
  refine at_regq [] { ts := [2], os := [] } [] gamOK hT h (by kernel_rfl) trivial fun a w h => then_normal (wp_ret ?_)
  exact at_return ((List.foldl hashS 11 x0), ()) [] h (by kernel_rfl) trivial (congrArg (fun z => (z, ())) (show ((List.foldl hashS 11 x0)) = hashF x0 from by rfl))

def S_impl_KeyedHash : Sum := { fid := 28, dom := [(.int 3), s27], cod := [(.int 3)], dp := true, fz := false, pre := fun x => pKey x.1 x.2.1, g := fun x => ((keyed x.1 x.2.1), ()) }
def S_impl_KeyedHash_tab : List (Nat × Sum) := [(29, S_slices_Concat_S_int_int_), (53, S_impl_Hash)]
theorem S_impl_KeyedHash_ok : FnOK Tryz.prog 28 S_impl_KeyedHash := by
 refine at_enter 13 (fun x => ⟨[(0, aI x.1), (1, aF (.int 3) x.2.1)], []⟩) Tryz.func28 rfl (by kernel_rfl) (fun x => rfl) ?_
 rintro w0 Z0 ⟨x0, x1, u⟩ a w
 revert x0 x1
 intro (x0 : Int) (x1 : (List Int)) hpre hlens h
 replace hpre : pKey x0 x1 := hpre
 have hl1 : List.length x1 ≤ 9223372036854775807 := hlens.2.1.1
 have hT : TabOK Tryz.prog w0 [] S_impl_KeyedHash_tab := (.cons S_slices_Concat_S_int_int__ok (.cons S_impl_Hash_ok .nil))
 have hp : List.length x1 ≤ 4294967296 := hpre
 refine wp_seq ?_
 refine at_regq [] { ts := [0, 1, 4], os := [] } [] gamOK hT h (by kernel_rfl) trivial fun a w h => then_normal (wp_seq ?_)
 refine at_regq [{}, { ids := [1], frz := true }, {}, {}, { ids := [2], frz := true }, { ids := [3], dp := false }, { ids := [4] }] { ts := [4], os := [] } [pCat ([[x0], x1, [x0]]), True] gamOK hT h (by kernel_rfl) ⟨(by (show _ ∧ _; refine ⟨by simp, ?_⟩; simp; omega)), trivial, trivial⟩ fun a w h => then_normal (wp_ret ?_)
 exact at_return ((hashF (D_slices_Concat_S_int_int_ ([[x0], x1, [x0]]))), ()) [] h (by kernel_rfl) trivial (congrArg (fun z => (z, ())) (show ((hashF (D_slices_Concat_S_int_int_ ([[x0], x1, [x0]])))) = keyed x0 x1 from by (unfold keyed; simp [D_slices_Concat_S_int_int_])))

def S_spec_KeyedHash : Sum := { fid := 75, dom := [(.int 3), s27], cod := [(.int 3)], dp := true, fz := false, pre := fun x => pKey x.1 x.2.1, g := fun x => ((keyed x.1 x.2.1), ()) }
def S_spec_KeyedHash_tab : List (Nat × Sum) := [(93, S_spec_Hash)]
theorem S_spec_KeyedHash_ok : FnOK Tryz.prog 75 S_spec_KeyedHash := by
 refine at_enter 13 (fun x => ⟨[(0, aI x.1), (1, aF (.int 3) x.2.1)], []⟩) Tryz.func75 rfl (by kernel_rfl) (fun x => rfl) ?_
 rintro w0 Z0 ⟨x0, x1, u⟩ a w
 revert x0 x1
 intro (x0 : Int) (x1 : (List Int)) hpre hlens h
 replace hpre : pKey x0 x1 := hpre
 have hl1 : List.length x1 ≤ 9223372036854775807 := hlens.2.1.1
 have hT : TabOK Tryz.prog w0 [] S_spec_KeyedHash_tab := (.cons S_spec_Hash_ok .nil)
 have hp : List.length x1 ≤ 4294967296 := hpre
 refine wp_seq ?_
 refine at_regq [] { ts := [0, 1, 4], os := [] } [] gamOK hT h (by kernel_rfl) trivial fun a w h => then_normal (wp_seq ?_)
 refine at_regq [{}, { ids := [1] }, {}, { ids := [2] }, {}, { ids := [3] }, { ids := [4] }] { ts := [4], os := [] } [(List.length ([x0]) + List.length x1) * 8 ≤ 140737488355328, (List.length (([x0]) ++ x1) + List.length ([x0])) * 8 ≤ 140737488355328, True] gamOK hT h (by kernel_rfl) ⟨(by first | omega | (simp only [lsA]; omega) | (simp <;> omega)), (by first | omega | (simp only [lsA]; omega) | (simp <;> omega)), trivial, trivial⟩ fun a w h => then_normal (wp_ret ?_)
 exact at_return ((hashF ((([x0]) ++ x1) ++ ([x0]))), ()) [] h (by kernel_rfl) trivial (congrArg (fun z => (z, ())) (show ((hashF ((([x0]) ++ x1) ++ ([x0])))) = keyed x0 x1 from by rfl))

abbrev Q_spec_ManifestMAC := (fun (x0 : Int) (x1 : T31) => Sh.fit s31 x1)
def S_spec_ManifestMAC : Sum := { fid := 77, dom := [(.int 3), s31], cod := [(.int 3)], dp := true, fz := false, pre := fun x => Q_spec_ManifestMAC x.1 x.2.1, g := fun x => ((manMAC x.1 x.2.1), ()) }
def S_spec_ManifestMAC_tab : List (Nat × Sum) := [(75, S_spec_KeyedHash)]
theorem S_spec_ManifestMAC_ok : FnOK Tryz.prog 77 S_spec_ManifestMAC := by
 refine at_enter 19 (fun x => ⟨[(0, aI x.1), (1, aG [cI x.2.1.1, cI x.2.1.2.1, cI x.2.1.2.2.1, cI x.2.1.2.2.2.1, .ro (.int 3) x.2.1.2.2.2.2.1, cI x.2.1.2.2.2.2.2])], []⟩) Tryz.func77 rfl (by kernel_rfl) (fun x => rfl) ?_
 rintro w0 Z0 ⟨x0, x1, u⟩ a w
 revert x0 x1
 intro (x0 : Int) (x1 : T31) hpre hlens h
 replace hpre : Q_spec_ManifestMAC x0 x1 := hpre
 have hT : TabOK Tryz.prog w0 [] S_spec_ManifestMAC_tab := (.cons S_spec_KeyedHash_ok .nil)
 have hf1 : Sh.fit s31 x1 := hpre
 have hn1_1 : List.length x1.2.2.2.2.1 ≤ 1073741824 := hf1.2.2.2.2.1.1
 refine wp_seq ?_
 refine at_regq [{ ids := [1] }] { ts := [0, 3, 4], os := [1] } [] gamOK hT h (by kernel_rfl) trivial fun a w h => then_normal (wp_seq ?_)
 refine at_regq [{}, {}, {}, {}, {}, {}, {}, {}, {}, { ids := [2] }, {}, {}, { ids := [3] }] { ts := [4], os := [] } [(List.length ([83, x1.1, x1.2.1, x1.2.2.1, x1.2.2.2.1]) + List.length x1.2.2.2.2.1) * 8 ≤ 140737488355328, pKey x0 (([83, x1.1, x1.2.1, x1.2.2.1, x1.2.2.2.1]) ++ x1.2.2.2.2.1)] gamOK hT h (by kernel_rfl) ⟨(by first | omega | (simp only [lsA]; omega) | (simp <;> omega)), (by (show _ ≤ _; (try unfold D_slices_Concat_S_int_int_); simp; try omega)), trivial⟩ fun a w h => then_normal (wp_ret ?_)
 exact at_return ((keyed x0 (([83, x1.1, x1.2.1, x1.2.2.1, x1.2.2.2.1]) ++ x1.2.2.2.2.1)), ()) [] h (by kernel_rfl) trivial (congrArg (fun z => (z, ())) (show ((keyed x0 (([83, x1.1, x1.2.1, x1.2.2.1, x1.2.2.2.1]) ++ x1.2.2.2.2.1))) = manMAC x0 x1 from by (unfold manMAC; simp [D_slices_Concat_S_int_int_])))

abbrev Q_spec_l19Copy := (fun (x0 : T31) => Sh.fit s31 x0)
def S_spec_l19Copy : Sum := { fid := 76, dom := [s31], cod := [s31], dp := true, fz := false, pre := fun x => Q_spec_l19Copy x.1, g := fun x => (((idD s31) x.1), ()) }
def S_spec_l19Copy_tab : List (Nat × Sum) := []
theorem S_spec_l19Copy_ok : FnOK Tryz.prog 76 S_spec_l19Copy := by
 refine at_enter 11 (fun x => ⟨[(0, aG [cI x.1.1, cI x.1.2.1, cI x.1.2.2.1, cI x.1.2.2.2.1, .ro (.int 3) x.1.2.2.2.2.1, cI x.1.2.2.2.2.2])], []⟩) Tryz.func76 rfl (by kernel_rfl) (fun x => rfl) ?_
 rintro w0 Z0 ⟨x0, u⟩ a w
 revert x0
 intro (x0 : T31) hpre hlens h
 replace hpre : Q_spec_l19Copy x0 := hpre
 have hT : TabOK Tryz.prog w0 [] S_spec_l19Copy_tab := .nil
 have hf0 : Sh.fit s31 x0 := hpre
 have hn0_1 : List.length x0.2.2.2.2.1 ≤ 1073741824 := hf0.2.2.2.2.1.1
 refine wp_seq ?_
 refine at_regq [{ ids := [1] }, { ids := [2] }] { ts := [1, 2], os := [1, 2] } [] gamOK hT h (by kernel_rfl) trivial fun a w h => then_normal (wp_seq ?_)
 refine at_regq [{}, { ids := [3] }] { ts := [1, 2, 3], os := [1, 2, 3] } [] gamOK hT h (by kernel_rfl) trivial fun a w h => then_normal (wp_seq ?_)
 refine at_regq [{ ids := [4] }, {}, {}, { ids := [5] }] { ts := [2, 3], os := [2, 3, 5] } [(List.length ([] : List Int) + List.length x0.2.2.2.2.1) * 8 ≤ 140737488355328] gamOK hT h (by kernel_rfl) ⟨(by first | omega | (simp only [lsA]; omega) | (simp <;> omega)), trivial⟩ fun a w h => then_normal (wp_seq ?_)
 refine at_regq [] { ts := [2], os := [2, 5] } [] gamOK hT h (by kernel_rfl) trivial fun a w h => then_normal (wp_ret ?_)
 exact at_return ((x0.1, (x0.2.1, (x0.2.2.1, (x0.2.2.2.1, ((([] : List Int) ++ x0.2.2.2.2.1), x0.2.2.2.2.2))))), ()) [] h (by kernel_rfl) trivial (congrArg (fun z => (z, ())) (show ((x0.1, (x0.2.1, (x0.2.2.1, (x0.2.2.2.1, ((([] : List Int) ++ x0.2.2.2.2.1), x0.2.2.2.2.2)))))) = (idD s31) x0 from by rfl))

def signMan (x0 : Int) (x1 : T31) : T31 := (x1.1, (x1.2.1, (x1.2.2.1, (x1.2.2.2.1, (x1.2.2.2.2.1, (manMAC x0 x1))))))
abbrev Q_spec_SignManifest := (fun (x0 : Int) (x1 : T31) => Sh.fit s31 x1)
def S_spec_SignManifest : Sum := { fid := 60, dom := [(.int 3), s31], cod := [s31], dp := true, fz := false, pre := fun x => Q_spec_SignManifest x.1 x.2.1, g := fun x => ((signMan x.1 x.2.1), ()) }
def S_spec_SignManifest_tab : List (Nat × Sum) := [(76, S_spec_l19Copy), (77, S_spec_ManifestMAC)]
theorem S_spec_SignManifest_ok : FnOK Tryz.prog 60 S_spec_SignManifest := by
 refine at_enter 13 (fun x => ⟨[(0, aI x.1), (1, aG [cI x.2.1.1, cI x.2.1.2.1, cI x.2.1.2.2.1, cI x.2.1.2.2.2.1, .ro (.int 3) x.2.1.2.2.2.2.1, cI x.2.1.2.2.2.2.2])], []⟩) Tryz.func60 rfl (by kernel_rfl) (fun x => rfl) ?_
 rintro w0 Z0 ⟨x0, x1, u⟩ a w
 revert x0 x1
 intro (x0 : Int) (x1 : T31) hpre hlens h
 replace hpre : Q_spec_SignManifest x0 x1 := hpre
 have hT : TabOK Tryz.prog w0 [] S_spec_SignManifest_tab := (.cons S_spec_l19Copy_ok (.cons S_spec_ManifestMAC_ok .nil))
 have hf1 : Sh.fit s31 x1 := hpre
 have hn1_1 : List.length x1.2.2.2.2.1 ≤ 1073741824 := hf1.2.2.2.2.1.1
 refine wp_seq ?_
 refine at_regq [{ ids := [1] }, { ids := [2] }] { ts := [0, 3, 4], os := [1, 2] } [] gamOK hT h (by kernel_rfl) trivial fun a w h => then_normal (wp_seq ?_)
 refine at_regq [{}, { ids := [3] }, { ids := [4] }] { ts := [0, 3, 4, 5], os := [1, 2, 3, 4] } [Q_spec_l19Copy x1] gamOK hT h (by kernel_rfl) ⟨(by exact hf1), trivial⟩ fun a w h => then_normal (wp_seq ?_)
 refine at_regq [] { ts := [4, 5], os := [2, 3, 4] } [Q_spec_ManifestMAC x0 x1] gamOK hT h (by kernel_rfl) ⟨(by exact hf1), trivial⟩ fun a w h => then_normal (wp_seq ?_)
 refine at_regq [] { ts := [4], os := [2, 3] } [] gamOK hT h (by kernel_rfl) trivial fun a w h => then_normal (wp_ret ?_)
 exact at_return ((x1.1, (x1.2.1, (x1.2.2.1, (x1.2.2.2.1, (x1.2.2.2.2.1, (manMAC x0 x1)))))), ()) [] h (by kernel_rfl) trivial (congrArg (fun z => (z, ())) (show ((x1.1, (x1.2.1, (x1.2.2.1, (x1.2.2.2.1, (x1.2.2.2.2.1, (manMAC x0 x1))))))) = signMan x0 x1 from by rfl))

def D_impl_orOne (x0 : Int) : Int := if x0 < 1 then 1 else x0
def S_impl_orOne : Sum := { fid := 30, dom := [(.int 3)], cod := [(.int 3)], dp := true, fz := false, pre := fun x => True, g := fun x => ((D_impl_orOne x.1), ()) }
def S_impl_orOne_tab : List (Nat × Sum) := []
theorem S_impl_orOne_ok : FnOK Tryz.prog 30 S_impl_orOne := by
 refine at_enter 5 (fun x => ⟨[(0, aI x.1)], []⟩) Tryz.func30 rfl (by kernel_rfl) (fun x => rfl) ?_
 rintro w0 Z0 ⟨x0, u⟩ a w
 revert x0
 intro (x0 : Int) hpre hlens h
 have hT : TabOK Tryz.prog w0 [] S_impl_orOne_tab := .nil
 refine wp_seq ?_
 refine at_regq [] { ts := [0, 2], os := [] } [] gamOK hT h (by kernel_rfl) trivial fun a w h => then_normal (wp_seq ?_)
 refine at_regq [] { ts := [2], os := [] } [] gamOK hT h (by kernel_rfl) trivial fun a w h => then_normal (wp_ret ?_)
 exact at_return (if x0 < 1 then 1 else x0, ()) [] h (by kernel_rfl) trivial (congrArg (fun z => (z, ())) (show (if x0 < 1 then 1 else x0) = D_impl_orOne x0 from by rfl))

def nodeKey (x0 : Int) (x1 : Int) : Int := (D_impl_orOne (keyed x0 ([101, x1])))
def S_impl_NodeKey : Sum := { fid := 16, dom := [(.int 3), (.int 3)], cod := [(.int 3)], dp := true, fz := false, pre := fun x => True, g := fun x => ((nodeKey x.1 x.2.1), ()) }
def S_impl_NodeKey_tab : List (Nat × Sum) := [(28, S_impl_KeyedHash), (30, S_impl_orOne)]
theorem S_impl_NodeKey_ok : FnOK Tryz.prog 16 S_impl_NodeKey := by
 refine at_enter 10 (fun x => ⟨[(0, aI x.1), (1, aI x.2.1)], []⟩) Tryz.func16 rfl (by kernel_rfl) (fun x => rfl) ?_
 rintro w0 Z0 ⟨x0, x1, u⟩ a w
 revert x0 x1
 intro (x0 : Int) (x1 : Int) hpre hlens h
 have hT : TabOK Tryz.prog w0 [] S_impl_NodeKey_tab := (.cons S_impl_KeyedHash_ok (.cons S_impl_orOne_ok .nil))
 refine wp_seq ?_
 refine at_regq [] { ts := [0, 1, 4], os := [] } [] gamOK hT h (by kernel_rfl) trivial fun a w h => then_normal (wp_seq ?_)
 refine at_regq [{}, {}, { ids := [1] }] { ts := [4], os := [] } [pKey x0 ([101, x1]), True] gamOK hT h (by kernel_rfl) ⟨(by (show _ ≤ _; (try unfold D_slices_Concat_S_int_int_); simp; try omega)), trivial, trivial⟩ fun a w h => then_normal (wp_ret ?_)
 exact at_return ((D_impl_orOne (keyed x0 ([101, x1]))), ()) [] h (by kernel_rfl) trivial (congrArg (fun z => (z, ())) (show ((D_impl_orOne (keyed x0 ([101, x1])))) = nodeKey x0 x1 from by rfl))

abbrev Q_impl_LinkMAC := (fun (x0 : Int) (x1 : T40) => Sh.fit s40 x1)
def S_impl_LinkMAC : Sum := { fid := 15, dom := [(.int 3), s40], cod := [(.int 3)], dp := true, fz := false, pre := fun x => Q_impl_LinkMAC x.1 x.2.1, g := fun x => ((linkMAC x.1 x.2.1), ()) }
def S_impl_LinkMAC_tab : List (Nat × Sum) := [(29, S_slices_Concat_S_int_int_), (28, S_impl_KeyedHash)]
theorem S_impl_LinkMAC_ok : FnOK Tryz.prog 15 S_impl_LinkMAC := by
 refine at_enter 31 (fun x => ⟨[(0, aI x.1), (1, aG [cI x.2.1.1, cI x.2.1.2.1, cI x.2.1.2.2.1, cI x.2.1.2.2.2.1.1, .ro (.int 3) x.2.1.2.2.2.1.2.1, .ro (.int 3) x.2.1.2.2.2.1.2.2, cI x.2.1.2.2.2.2])], []⟩) Tryz.func15 rfl (by kernel_rfl) (fun x => rfl) ?_
 rintro w0 Z0 ⟨x0, x1, u⟩ a w
 revert x0 x1
 intro (x0 : Int) (x1 : T40) hpre hlens h
 replace hpre : Q_impl_LinkMAC x0 x1 := hpre
 have hT : TabOK Tryz.prog w0 [] S_impl_LinkMAC_tab := (.cons S_slices_Concat_S_int_int__ok (.cons S_impl_KeyedHash_ok .nil))
 have hf1 : Sh.fit s40 x1 := hpre
 have hn1_1 : List.length x1.2.2.2.1.2.1 ≤ 1073741824 := hf1.2.2.2.1.2.1.1
 have hn1_2 : List.length x1.2.2.2.1.2.2 ≤ 1073741824 := hf1.2.2.2.1.2.2.1
 refine wp_seq ?_
 refine at_regq [{ ids := [1] }] { ts := [0, 3, 4], os := [1] } [] gamOK hT h (by kernel_rfl) trivial fun a w h => then_normal (wp_seq ?_)
 refine at_regq [{}, {}, {}, {}, {}, {}, {}, {}, {}, {}, {}, {}, {}, { ids := [2] }] { ts := [0, 3, 4, 5], os := [1, 2] } [] gamOK hT h (by kernel_rfl) trivial fun a w h => then_normal (wp_seq ?_)
 replace h := at_out (σ' := ⟨[(0, aI x0), (3, aP 1 0), (4, aI 0), (5, aF (.int 3) ([103, x1.1, x1.2.1, x1.2.2.1, x1.2.2.2.1.1, ((List.length x1.2.2.2.1.2.1 : Nat) : Int)]))], [(1, oX 40 [cI x1.1, cI x1.2.1, cI x1.2.2.1, cI x1.2.2.2.1.1, .ro (.int 3) x1.2.2.2.1.2.1, .ro (.int 3) x1.2.2.2.1.2.2, cI x1.2.2.2.2])]⟩) { fz := [2], ts := [0, 3, 4, 5], os := [1] } h (by kernel_rfl)
 refine at_regq [{}, {}, {}, {}, {}, {}, {}, {}, { ids := [3], dp := false }, { ids := [4] }] { ts := [4], os := [] } [pCat ([[103, x1.1, x1.2.1, x1.2.2.1, x1.2.2.2.1.1, ((List.length x1.2.2.2.1.2.1 : Nat) : Int)], x1.2.2.2.1.2.1, x1.2.2.2.1.2.2]), pKey x0 (D_slices_Concat_S_int_int_ ([[103, x1.1, x1.2.1, x1.2.2.1, x1.2.2.2.1.1, ((List.length x1.2.2.2.1.2.1 : Nat) : Int)], x1.2.2.2.1.2.1, x1.2.2.2.1.2.2]))] gamOK hT h (by kernel_rfl) ⟨(by (show _ ∧ _; refine ⟨by simp, ?_⟩; simp; omega)), (by (show _ ≤ _; (try unfold D_slices_Concat_S_int_int_); simp; try omega)), trivial⟩ fun a w h => then_normal (wp_ret ?_)
 exact at_return ((keyed x0 (D_slices_Concat_S_int_int_ ([[103, x1.1, x1.2.1, x1.2.2.1, x1.2.2.2.1.1, ((List.length x1.2.2.2.1.2.1 : Nat) : Int)], x1.2.2.2.1.2.1, x1.2.2.2.1.2.2]))), ()) [] h (by kernel_rfl) trivial (congrArg (fun z => (z, ())) (show ((keyed x0 (D_slices_Concat_S_int_int_ ([[103, x1.1, x1.2.1, x1.2.2.1, x1.2.2.2.1.1, ((List.length x1.2.2.2.1.2.1 : Nat) : Int)], x1.2.2.2.1.2.1, x1.2.2.2.1.2.2])))) = linkMAC x0 x1 from by (unfold linkMAC; simp [D_slices_Concat_S_int_int_])))

def sendOnLink (x0 : Int) (x1 : Int) (x2 : Int) (x3 : Int) (x4 : T36) : T40 := (x1, (x2, (x3, (x4, (linkMAC (nodeKey x0 x1) (x1, (x2, (x3, (x4, 0)))))))))
abbrev Q_impl_SendOnLink := (fun (x0 : Int) (x1 : Int) (x2 : Int) (x3 : Int) (x4 : T36) => Sh.fit s36 x4)
def S_impl_SendOnLink : Sum := { fid := 8, dom := [(.int 3), (.int 3), (.int 3), (.int 3), s36], cod := [s40], dp := true, fz := false, pre := fun x => Q_impl_SendOnLink x.1 x.2.1 x.2.2.1 x.2.2.2.1 x.2.2.2.2.1, g := fun x => ((sendOnLink x.1 x.2.1 x.2.2.1 x.2.2.2.1 x.2.2.2.2.1), ()) }
def S_impl_SendOnLink_tab : List (Nat × Sum) := [(22, S__impl_CodedPacket_clone), (16, S_impl_NodeKey), (15, S_impl_LinkMAC)]
theorem S_impl_SendOnLink_ok : FnOK Tryz.prog 8 S_impl_SendOnLink := by
 refine at_enter 25 (fun x => ⟨[(0, aI x.1), (1, aI x.2.1), (2, aI x.2.2.1), (3, aI x.2.2.2.1), (4, aG [cI x.2.2.2.2.1.1, .ro (.int 3) x.2.2.2.2.1.2.1, .ro (.int 3) x.2.2.2.2.1.2.2])], []⟩) Tryz.func8 rfl (by kernel_rfl) (fun x => rfl) ?_
 rintro w0 Z0 ⟨x0, x1, x2, x3, x4, u⟩ a w
 revert x0 x1 x2 x3 x4
 intro (x0 : Int) (x1 : Int) (x2 : Int) (x3 : Int) (x4 : T36) hpre hlens h
 replace hpre : Q_impl_SendOnLink x0 x1 x2 x3 x4 := hpre
 have hT : TabOK Tryz.prog w0 [] S_impl_SendOnLink_tab := (.cons S__impl_CodedPacket_clone_ok (.cons S_impl_NodeKey_ok (.cons S_impl_LinkMAC_ok .nil)))
 have hf4 : Sh.fit s36 x4 := hpre
 have hn4_1 : List.length x4.2.1 ≤ 1073741824 := hf4.2.1.1
 have hn4_2 : List.length x4.2.2 ≤ 1073741824 := hf4.2.2.1
 refine wp_seq ?_
 refine at_regq [{ ids := [1] }, { ids := [2] }] { ts := [0, 1, 2, 3, 9, 10], os := [1, 2] } [] gamOK hT h (by kernel_rfl) trivial fun a w h => then_normal (wp_seq ?_)
 refine at_regq [{}, {}, {}, {}, { ids := [3, 4] }, {}, { ids := [5] }] { ts := [0, 1, 10, 11], os := [2, 3, 4, 5] } [Q__impl_CodedPacket_clone x4] gamOK hT h (by kernel_rfl) ⟨(by exact hf4), trivial⟩ fun a w h => then_normal (wp_seq ?_)
 refine at_anyq [{}, {}, {}, {}, {}, {}, {}] { ts := [10, 11], os := [2, 3, 4, 5] } [True, Q_impl_LinkMAC (nodeKey x0 x1) (x1, (x2, (x3, (x4, 0))))] gamOK hT mixed h (by kernel_rfl) ⟨trivial, (by exact ⟨trivial, ⟨trivial, ⟨trivial, ⟨hf4, trivial⟩⟩⟩⟩), trivial⟩ fun a w h => then_normal (wp_seq ?_)
 refine at_regq [] { ts := [10], os := [2, 3, 4] } [] gamOK hT h (by kernel_rfl) trivial fun a w h => then_normal (wp_ret ?_)
 exact at_return ((x1, (x2, (x3, (x4, (linkMAC (nodeKey x0 x1) (x1, (x2, (x3, (x4, 0))))))))), ()) [] h (by kernel_rfl) trivial (congrArg (fun z => (z, ())) (show ((x1, (x2, (x3, (x4, (linkMAC (nodeKey x0 x1) (x1, (x2, (x3, (x4, 0)))))))))) = sendOnLink x0 x1 x2 x3 x4 from by rfl))

theorem shr1 {n : Nat} : Int.fdiv (n : Int) (2 ^ (min (1 : Int).toNat (IntKind.i64).bits)) = ((n / 2 : Nat) : Int) := by
 have e2 : (2 : Int) ^ (min (1 : Int).toNat (IntKind.i64).bits) = 2 := by decide
 rw [e2, Int.fdiv_eq_ediv_of_nonneg _ (by omega)]; omega
theorem and1 {n : Nat} (h : n ≤ 4611686018427387904) : IntKind.i64.wrap ((BitVec.ofInt (IntKind.i64).bits (n : Int) &&& BitVec.ofInt (IntKind.i64).bits 1).toNat : Int) = ((n % 2 : Nat) : Int) := by
 have e : (BitVec.ofInt (IntKind.i64).bits (n : Int) &&& BitVec.ofInt (IntKind.i64).bits 1).toNat = n % 2 := by
  rw [BitVec.toNat_and]
  have h1 : (BitVec.ofInt (IntKind.i64).bits (n : Int)).toNat = n := by
   rw [BitVec.toNat_ofInt]
   simp [IntKind.bits]
   omega
  have h2 : (BitVec.ofInt (IntKind.i64).bits 1).toNat = 1 := by decide
  rw [h1, h2, Nat.and_one_is_mod]
 rw [e, IntKind.wrap_i64]; omega
def powP (a n m : Int) : Prop := (0 ≤ a ∧ a < m) ∧ (0 ≤ n ∧ n ≤ 4611686018427387904) ∧ 1 < m ∧ m ≤ 1048576
def powD (a n m : Int) : Int := LA.pmL m 1 a n.toNat
theorem powD_bd {a n m : Int} (h : powP a n m) : 0 ≤ powD a n m ∧ powD a n m < m := LA.pmL_bd (by have := h.2.2.1; omega) 63 _ _ _ (by have := h.2.1; omega) (by omega) (by have := h.2.2.1; omega) h.1.1
def powOK (x0 x1 x2 : Int) (q : Int × Int × Nat) : Prop := LA.pmL x2 q.1 q.2.1 q.2.2 = powD x0 x1 x2 ∧ (0 ≤ q.1 ∧ q.1 < x2) ∧ (0 ≤ q.2.1 ∧ q.2.1 < x2) ∧ q.2.2 ≤ 4611686018427387904
theorem powOK_odd {x0 x1 x2 : Int} {q : Int × Int × Nat} (h : powOK x0 x1 x2 q) (hm : 1 < x2) (h2 : q.2.2 % 2 = 1) : powOK x0 x1 x2 ((q.1 * q.2.1).tmod x2, (q.2.1 * q.2.1).tmod x2, q.2.2 / 2) := by
 obtain ⟨h0, ⟨h3, h4⟩, ⟨h5, h6⟩, h7⟩ := h
 exact ⟨by rw [← h0]; exact (LA.pmL_odd h2).symm, LA.tmod_lt (Int.mul_nonneg h3 h5) (by omega), LA.tmod_lt (Int.mul_nonneg h5 h5) (by omega), by dsimp only; omega⟩
theorem powOK_even {x0 x1 x2 : Int} {q : Int × Int × Nat} (h : powOK x0 x1 x2 q) (hm : 1 < x2) (h1 : q.2.2 ≠ 0) (h2 : q.2.2 % 2 = 0) : powOK x0 x1 x2 (q.1, (q.2.1 * q.2.1).tmod x2, q.2.2 / 2) := by
 obtain ⟨h0, ⟨h3, h4⟩, ⟨h5, h6⟩, h7⟩ := h
 exact ⟨by rw [← h0]; exact (LA.pmL_even h1 h2).symm, ⟨h3, h4⟩, LA.tmod_lt (Int.mul_nonneg h5 h5) (by omega), by dsimp only; omega⟩
theorem elB {v : List Int} (h : ∀ x ∈ v, LA.El x) (j : Nat) : 0 ≤ v.getD j 0 ∧ v.getD j 0 ≤ 1018 := LA.VokB.at_ (n := v.length) ⟨rfl, h⟩ j
theorem validV_el {v : List Int} (h : List.all v isEl = true) : ∀ x ∈ v, LA.El x := fun x hx => isEl_t (List.all_eq_true.1 h x hx)
theorem addS_take_le (a b : List Int) (k : Int) (i : Nat) : List.length (List.take i (LA.addS a b k)) ≤ List.length a := by simp [LA.addS]; omega
def S_impl_powMod : Sum := { fid := 65, dom := [(.int 3), (.int 3), (.int 3)], cod := [(.int 3)], dp := true, fz := false, pre := fun x => powP x.1 x.2.1 x.2.2.1, g := fun x => ((powD x.1 x.2.1 x.2.2.1), ()) }
def S_impl_powMod_tab : List (Nat × Sum) := []
theorem S_impl_powMod_ok : FnOK Tryz.prog 65 S_impl_powMod := by
 refine at_enter 26 (fun x => ⟨[(0, aI x.1), (1, aI x.2.1), (2, aI x.2.2.1)], []⟩) Tryz.func65 rfl (by kernel_rfl) (fun x => rfl) ?_
 rintro w0 Z0 ⟨x0, x1, x2, u⟩ a w
 revert x0 x1 x2
 intro (x0 : Int) (x1 : Int) (x2 : Int) hpre hlens h
 replace hpre : powP x0 x1 x2 := hpre
 have hT : TabOK Tryz.prog w0 [] S_impl_powMod_tab := .nil
 have hp : (0 ≤ x0 ∧ x0 < x2) ∧ (0 ≤ x1 ∧ x1 ≤ 4611686018427387904) ∧ 1 < x2 ∧ x2 ≤ 1048576 := hpre
 refine wp_seq ?_
 refine at_regq [] { ts := [0, 1, 2, 6], os := [] } [] gamOK hT h (by kernel_rfl) trivial fun a w h => then_normal (wp_seq ?_)
 refine at_regq [] { ts := [0, 1, 2, 6, 7], os := [] } [] gamOK hT h (by kernel_rfl) trivial fun a w h => then_normal (wp_seq (wp_block ?_))
 replace h := at_out (σ' := ⟨[(0, aI x0), (1, aI x1), (2, aI x2), (6, aI 0), (7, aI 1)], []⟩) { ts := [0, 1, 2, 6, 7], os := [] } h (by kernel_rfl)
 refine at_loop (fun q : (Int × Int × Nat) => (⟨[(0, aI q.2.1), (1, aI ((q.2.2 : Nat) : Int)), (2, aI x2), (6, aI 0), (7, aI q.1)], []⟩ : St)) (fun q => powOK x0 x1 x2 q) (fun q => q.2.2) ((1, x0, x1.toNat)) h (st_congr3 (fun (d0 : Int) (d1 : Int) (d2 : Int) => (⟨[(0, aI d1), (1, aI d2), (2, aI x2), (6, aI 0), (7, aI d0)], []⟩ : St)) (show (1 : Int) = ((1, x0, x1.toNat)).1 from by first | with_reducible rfl | (show x1 = ((x1.toNat : Nat) : Int); omega) | rfl) (show (x0 : Int) = ((1, x0, x1.toNat)).2.1 from by first | with_reducible rfl | (show x1 = ((x1.toNat : Nat) : Int); omega) | rfl) (show (x1 : Int) = ((((1, x0, x1.toNat)).2.2 : Nat) : Int) from by first | with_reducible rfl | (show x1 = ((x1.toNat : Nat) : Int); omega) | rfl)) (by exact ⟨rfl, ⟨(show (0 : Int) ≤ 1 by decide), by dsimp only; omega⟩, ⟨by dsimp only; omega, by dsimp only; omega⟩, by dsimp only; omega⟩) ?_
 intro q a w hok0 h
 have hq := hok0.2
 refine wp_seq (wp_seq ?_)
 refine at_regq [] { ts := [0, 1, 2, 6, 7, 9], os := [] } [] gamOK hT h (by kernel_rfl) trivial fun a w h => then_normal ?_
 refine at_test (decide (((q.2.2 : Nat) : Int) > 0)) h (by kernel_rfl) (fun h1 => ?_) (fun h1 => ?_)
 ·replace h1 : ((q.2.2 : Nat) : Int) > 0 := of_decide_eq_true h1
  refine wp_skip (then_normal (wp_seq (wp_block (wp_seq (wp_seq ?_)))))
  refine at_regq [{}, { hint := some (aI ((q.2.2 % 2 : Nat) : Int)) }] { ts := [0, 1, 2, 6, 7, 14], os := [] } [(AV.p (.c (.v (.int .i64 (IntKind.i64.wrap ((BitVec.ofInt (IntKind.i64).bits ((q.2.2 : Nat) : Int) &&& BitVec.ofInt (IntKind.i64).bits 1).toNat : Int))))) = AV.p (.c (.v (.int .i64 (((q.2.2 % 2 : Nat) : Int))))))] gamOK hT h (by kernel_rfl) ⟨hint_int (by exact and1 (by omega)), trivial⟩ fun a w h => then_normal ?_
  refine at_test (decide (((q.2.2 % 2 : Nat) : Int) = 1)) h (by kernel_rfl) (fun h2 => ?_) (fun h2 => ?_)
  ·replace h2 : ((q.2.2 % 2 : Nat) : Int) = 1 := of_decide_eq_true h2
   refine at_regq [{}, {}, { nw := true }] { ts := [0, 1, 2, 6, 7], os := [] } [I64 (q.1 * q.2.1), (x2 : Int) ≠ 0] gamOK hT h (by kernel_rfl) ⟨⟨by (have hA0 := mul_f q.1 q.2.1; first | omega | (simp only [lsA]; omega) | (simp <;> omega)), by (have hA0 := mul_f q.1 q.2.1; first | omega | (simp only [lsA]; omega) | (simp <;> omega))⟩, (by first | omega | (simp only [lsA]; omega) | (simp <;> omega)), trivial⟩ fun a w h => then_normal ?_
   refine at_regq [{}, {}, { nw := true }] { ts := [0, 1, 2, 6, 7], os := [] } [I64 (q.2.1 * q.2.1), (x2 : Int) ≠ 0] gamOK hT h (by kernel_rfl) ⟨⟨by (have hA0 := mul_f q.2.1 q.2.1; first | omega | (simp only [lsA]; omega) | (simp <;> omega)), by (have hA0 := mul_f q.2.1 q.2.1; first | omega | (simp only [lsA]; omega) | (simp <;> omega))⟩, (by first | omega | (simp only [lsA]; omega) | (simp <;> omega)), trivial⟩ fun a w h => in_normal (then_normal ?_)
   refine at_regq [{}, { hint := some (aI ((q.2.2 / 2 : Nat) : Int)) }] { ts := [0, 1, 2, 6, 7], os := [] } [(0 : Int) ≤ 1, (AV.p (.c (.v (.int .i64 ((Int.fdiv ((q.2.2 : Nat) : Int) (2 ^ (min (1 : Int).toNat (IntKind.i64).bits))))))) = AV.p (.c (.v (.int .i64 (((q.2.2 / 2 : Nat) : Int))))))] gamOK hT h (by kernel_rfl) ⟨(by first | omega | (simp only [lsA]; omega) | (simp <;> omega)), hint_int (by exact shr1), trivial⟩ fun a w h => ?_
   replace h := at_out (σ' := ⟨[(0, aI (Int.tmod (q.2.1 * q.2.1) x2)), (1, aI ((q.2.2 / 2 : Nat) : Int)), (2, aI x2), (6, aI 0), (7, aI (Int.tmod (q.1 * q.2.1) x2))], []⟩) { ts := [0, 1, 2, 6, 7], os := [] } h (by kernel_rfl)
   exact ⟨((q.1 * q.2.1).tmod x2, (q.2.1 * q.2.1).tmod x2, q.2.2 / 2), at_eq h (st_congr3 (fun (d0 : Int) (d1 : Int) (d2 : Int) => (⟨[(0, aI d1), (1, aI d2), (2, aI x2), (6, aI 0), (7, aI d0)], []⟩ : St)) (show ((Int.tmod (q.1 * q.2.1) x2) : Int) = (((q.1 * q.2.1).tmod x2, (q.2.1 * q.2.1).tmod x2, q.2.2 / 2)).1 from by first | with_reducible rfl | (rfl) | rfl) (show ((Int.tmod (q.2.1 * q.2.1) x2) : Int) = (((q.1 * q.2.1).tmod x2, (q.2.1 * q.2.1).tmod x2, q.2.2 / 2)).2.1 from by first | with_reducible rfl | (rfl) | rfl) (show (((q.2.2 / 2 : Nat) : Int) : Int) = (((((q.1 * q.2.1).tmod x2, (q.2.1 * q.2.1).tmod x2, q.2.2 / 2)).2.2 : Nat) : Int) from by first | with_reducible rfl | (rfl) | rfl)), (by first | exact powOK_odd hok0 (by omega) (by omega) | exact powOK_even hok0 (by omega) (by omega) (by omega)), (by dsimp only; omega)⟩
  ·replace h2 : ¬ (((q.2.2 % 2 : Nat) : Int) = 1) := of_decide_eq_false h2
   refine wp_skip (then_normal ?_)
   refine at_regq [{}, {}, { nw := true }] { ts := [0, 1, 2, 6, 7], os := [] } [I64 (q.2.1 * q.2.1), (x2 : Int) ≠ 0] gamOK hT h (by kernel_rfl) ⟨⟨by (have hA0 := mul_f q.2.1 q.2.1; first | omega | (simp only [lsA]; omega) | (simp <;> omega)), by (have hA0 := mul_f q.2.1 q.2.1; first | omega | (simp only [lsA]; omega) | (simp <;> omega))⟩, (by first | omega | (simp only [lsA]; omega) | (simp <;> omega)), trivial⟩ fun a w h => in_normal (then_normal ?_)
   refine at_regq [{}, { hint := some (aI ((q.2.2 / 2 : Nat) : Int)) }] { ts := [0, 1, 2, 6, 7], os := [] } [(0 : Int) ≤ 1, (AV.p (.c (.v (.int .i64 ((Int.fdiv ((q.2.2 : Nat) : Int) (2 ^ (min (1 : Int).toNat (IntKind.i64).bits))))))) = AV.p (.c (.v (.int .i64 (((q.2.2 / 2 : Nat) : Int))))))] gamOK hT h (by kernel_rfl) ⟨(by first | omega | (simp only [lsA]; omega) | (simp <;> omega)), hint_int (by exact shr1), trivial⟩ fun a w h => ?_
   replace h := at_out (σ' := ⟨[(0, aI (Int.tmod (q.2.1 * q.2.1) x2)), (1, aI ((q.2.2 / 2 : Nat) : Int)), (2, aI x2), (6, aI 0), (7, aI q.1)], []⟩) { ts := [0, 1, 2, 6, 7], os := [] } h (by kernel_rfl)
   exact ⟨(q.1, (q.2.1 * q.2.1).tmod x2, q.2.2 / 2), at_eq h (st_congr3 (fun (d0 : Int) (d1 : Int) (d2 : Int) => (⟨[(0, aI d1), (1, aI d2), (2, aI x2), (6, aI 0), (7, aI d0)], []⟩ : St)) (show (q.1 : Int) = ((q.1, (q.2.1 * q.2.1).tmod x2, q.2.2 / 2)).1 from by first | with_reducible rfl | (rfl) | rfl) (show ((Int.tmod (q.2.1 * q.2.1) x2) : Int) = ((q.1, (q.2.1 * q.2.1).tmod x2, q.2.2 / 2)).2.1 from by first | with_reducible rfl | (rfl) | rfl) (show (((q.2.2 / 2 : Nat) : Int) : Int) = ((((q.1, (q.2.1 * q.2.1).tmod x2, q.2.2 / 2)).2.2 : Nat) : Int) from by first | with_reducible rfl | (rfl) | rfl)), (by first | exact powOK_odd hok0 (by omega) (by omega) | exact powOK_even hok0 (by omega) (by omega) (by omega)), (by dsimp only; omega)⟩
 ·replace h1 : ¬ (((q.2.2 : Nat) : Int) > 0) := of_decide_eq_false h1
  refine wp_exit (then_exit (then_exit (in_hit (then_normal (wp_seq ?_)))))
  refine at_regq [] { ts := [6], os := [] } [] gamOK hT h (by kernel_rfl) trivial fun a w h => then_normal (wp_ret ?_)
  exact at_return (q.1, ()) [] h (by kernel_rfl) trivial (congrArg (fun z => (z, ())) (show (q.1) = powD x0 x1 x2 from by (have e := hok0.1; rw [show q.2.2 = 0 by omega, LA.pmL_zero] at e; exact e)))

def S_spec_l4Pow : Sum := { fid := 74, dom := [(.int 3), (.int 3), (.int 3)], cod := [(.int 3)], dp := true, fz := false, pre := fun x => powP x.1 x.2.1 x.2.2.1, g := fun x => ((powD x.1 x.2.1 x.2.2.1), ()) }
def S_spec_l4Pow_tab : List (Nat × Sum) := []
theorem S_spec_l4Pow_ok : FnOK Tryz.prog 74 S_spec_l4Pow := by
 refine at_enter 26 (fun x => ⟨[(0, aI x.1), (1, aI x.2.1), (2, aI x.2.2.1)], []⟩) Tryz.func74 rfl (by kernel_rfl) (fun x => rfl) ?_
 rintro w0 Z0 ⟨x0, x1, x2, u⟩ a w
 revert x0 x1 x2
 intro (x0 : Int) (x1 : Int) (x2 : Int) hpre hlens h
 replace hpre : powP x0 x1 x2 := hpre
 have hT : TabOK Tryz.prog w0 [] S_spec_l4Pow_tab := .nil
 have hp : (0 ≤ x0 ∧ x0 < x2) ∧ (0 ≤ x1 ∧ x1 ≤ 4611686018427387904) ∧ 1 < x2 ∧ x2 ≤ 1048576 := hpre
 refine wp_seq ?_
 refine at_regq [] { ts := [0, 1, 2, 6], os := [] } [] gamOK hT h (by kernel_rfl) trivial fun a w h => then_normal (wp_seq ?_)
 refine at_regq [] { ts := [0, 1, 2, 6, 7], os := [] } [] gamOK hT h (by kernel_rfl) trivial fun a w h => then_normal (wp_seq (wp_block ?_))
 replace h := at_out (σ' := ⟨[(0, aI x0), (1, aI x1), (2, aI x2), (6, aI 0), (7, aI 1)], []⟩) { ts := [0, 1, 2, 6, 7], os := [] } h (by kernel_rfl)
 refine at_loop (fun q : (Int × Int × Nat) => (⟨[(0, aI q.2.1), (1, aI ((q.2.2 : Nat) : Int)), (2, aI x2), (6, aI 0), (7, aI q.1)], []⟩ : St)) (fun q => powOK x0 x1 x2 q) (fun q => q.2.2) ((1, x0, x1.toNat)) h (st_congr3 (fun (d0 : Int) (d1 : Int) (d2 : Int) => (⟨[(0, aI d1), (1, aI d2), (2, aI x2), (6, aI 0), (7, aI d0)], []⟩ : St)) (show (1 : Int) = ((1, x0, x1.toNat)).1 from by first | with_reducible rfl | (show x1 = ((x1.toNat : Nat) : Int); omega) | rfl) (show (x0 : Int) = ((1, x0, x1.toNat)).2.1 from by first | with_reducible rfl | (show x1 = ((x1.toNat : Nat) : Int); omega) | rfl) (show (x1 : Int) = ((((1, x0, x1.toNat)).2.2 : Nat) : Int) from by first | with_reducible rfl | (show x1 = ((x1.toNat : Nat) : Int); omega) | rfl)) (by exact ⟨rfl, ⟨(show (0 : Int) ≤ 1 by decide), by dsimp only; omega⟩, ⟨by dsimp only; omega, by dsimp only; omega⟩, by dsimp only; omega⟩) ?_
 intro q a w hok0 h
 have hq := hok0.2
 refine wp_seq (wp_seq ?_)
 refine at_regq [] { ts := [0, 1, 2, 6, 7, 9], os := [] } [] gamOK hT h (by kernel_rfl) trivial fun a w h => then_normal ?_
 refine at_test (decide (((q.2.2 : Nat) : Int) > 0)) h (by kernel_rfl) (fun h1 => ?_) (fun h1 => ?_)
 ·replace h1 : ((q.2.2 : Nat) : Int) > 0 := of_decide_eq_true h1
  refine wp_skip (then_normal (wp_block (wp_seq (wp_seq ?_))))
  refine at_regq [{}, { hint := some (aI ((q.2.2 % 2 : Nat) : Int)) }] { ts := [0, 1, 2, 6, 7, 12], os := [] } [(AV.p (.c (.v (.int .i64 (IntKind.i64.wrap ((BitVec.ofInt (IntKind.i64).bits ((q.2.2 : Nat) : Int) &&& BitVec.ofInt (IntKind.i64).bits 1).toNat : Int))))) = AV.p (.c (.v (.int .i64 (((q.2.2 % 2 : Nat) : Int))))))] gamOK hT h (by kernel_rfl) ⟨hint_int (by exact and1 (by omega)), trivial⟩ fun a w h => then_normal ?_
  refine at_test (decide (((q.2.2 % 2 : Nat) : Int) = 1)) h (by kernel_rfl) (fun h2 => ?_) (fun h2 => ?_)
  ·replace h2 : ((q.2.2 % 2 : Nat) : Int) = 1 := of_decide_eq_true h2
   refine at_regq [{}, {}, { nw := true }] { ts := [0, 1, 2, 6, 7], os := [] } [I64 (q.1 * q.2.1), (x2 : Int) ≠ 0] gamOK hT h (by kernel_rfl) ⟨⟨by (have hA0 := mul_f q.1 q.2.1; first | omega | (simp only [lsA]; omega) | (simp <;> omega)), by (have hA0 := mul_f q.1 q.2.1; first | omega | (simp only [lsA]; omega) | (simp <;> omega))⟩, (by first | omega | (simp only [lsA]; omega) | (simp <;> omega)), trivial⟩ fun a w h => then_normal (wp_seq ?_)
   refine at_regq [{}, {}, { nw := true }] { ts := [0, 1, 2, 6, 7], os := [] } [I64 (q.2.1 * q.2.1), (x2 : Int) ≠ 0] gamOK hT h (by kernel_rfl) ⟨⟨by (have hA0 := mul_f q.2.1 q.2.1; first | omega | (simp only [lsA]; omega) | (simp <;> omega)), by (have hA0 := mul_f q.2.1 q.2.1; first | omega | (simp only [lsA]; omega) | (simp <;> omega))⟩, (by first | omega | (simp only [lsA]; omega) | (simp <;> omega)), trivial⟩ fun a w h => then_normal ?_
   refine at_regq [{}, { hint := some (aI ((q.2.2 / 2 : Nat) : Int)) }] { ts := [0, 1, 2, 6, 7], os := [] } [(0 : Int) ≤ 1, (AV.p (.c (.v (.int .i64 ((Int.fdiv ((q.2.2 : Nat) : Int) (2 ^ (min (1 : Int).toNat (IntKind.i64).bits))))))) = AV.p (.c (.v (.int .i64 (((q.2.2 / 2 : Nat) : Int))))))] gamOK hT h (by kernel_rfl) ⟨(by first | omega | (simp only [lsA]; omega) | (simp <;> omega)), hint_int (by exact shr1), trivial⟩ fun a w h => in_normal ?_
   replace h := at_out (σ' := ⟨[(0, aI (Int.tmod (q.2.1 * q.2.1) x2)), (1, aI ((q.2.2 / 2 : Nat) : Int)), (2, aI x2), (6, aI 0), (7, aI (Int.tmod (q.1 * q.2.1) x2))], []⟩) { ts := [0, 1, 2, 6, 7], os := [] } h (by kernel_rfl)
   exact ⟨((q.1 * q.2.1).tmod x2, (q.2.1 * q.2.1).tmod x2, q.2.2 / 2), at_eq h (st_congr3 (fun (d0 : Int) (d1 : Int) (d2 : Int) => (⟨[(0, aI d1), (1, aI d2), (2, aI x2), (6, aI 0), (7, aI d0)], []⟩ : St)) (show ((Int.tmod (q.1 * q.2.1) x2) : Int) = (((q.1 * q.2.1).tmod x2, (q.2.1 * q.2.1).tmod x2, q.2.2 / 2)).1 from by first | with_reducible rfl | (rfl) | rfl) (show ((Int.tmod (q.2.1 * q.2.1) x2) : Int) = (((q.1 * q.2.1).tmod x2, (q.2.1 * q.2.1).tmod x2, q.2.2 / 2)).2.1 from by first | with_reducible rfl | (rfl) | rfl) (show (((q.2.2 / 2 : Nat) : Int) : Int) = (((((q.1 * q.2.1).tmod x2, (q.2.1 * q.2.1).tmod x2, q.2.2 / 2)).2.2 : Nat) : Int) from by first | with_reducible rfl | (rfl) | rfl)), (by first | exact powOK_odd hok0 (by omega) (by omega) | exact powOK_even hok0 (by omega) (by omega) (by omega)), (by dsimp only; omega)⟩
  ·replace h2 : ¬ (((q.2.2 % 2 : Nat) : Int) = 1) := of_decide_eq_false h2
   refine wp_skip (then_normal (wp_seq ?_))
   refine at_regq [{}, {}, { nw := true }] { ts := [0, 1, 2, 6, 7], os := [] } [I64 (q.2.1 * q.2.1), (x2 : Int) ≠ 0] gamOK hT h (by kernel_rfl) ⟨⟨by (have hA0 := mul_f q.2.1 q.2.1; first | omega | (simp only [lsA]; omega) | (simp <;> omega)), by (have hA0 := mul_f q.2.1 q.2.1; first | omega | (simp only [lsA]; omega) | (simp <;> omega))⟩, (by first | omega | (simp only [lsA]; omega) | (simp <;> omega)), trivial⟩ fun a w h => then_normal ?_
   refine at_regq [{}, { hint := some (aI ((q.2.2 / 2 : Nat) : Int)) }] { ts := [0, 1, 2, 6, 7], os := [] } [(0 : Int) ≤ 1, (AV.p (.c (.v (.int .i64 ((Int.fdiv ((q.2.2 : Nat) : Int) (2 ^ (min (1 : Int).toNat (IntKind.i64).bits))))))) = AV.p (.c (.v (.int .i64 (((q.2.2 / 2 : Nat) : Int))))))] gamOK hT h (by kernel_rfl) ⟨(by first | omega | (simp only [lsA]; omega) | (simp <;> omega)), hint_int (by exact shr1), trivial⟩ fun a w h => in_normal ?_
   replace h := at_out (σ' := ⟨[(0, aI (Int.tmod (q.2.1 * q.2.1) x2)), (1, aI ((q.2.2 / 2 : Nat) : Int)), (2, aI x2), (6, aI 0), (7, aI q.1)], []⟩) { ts := [0, 1, 2, 6, 7], os := [] } h (by kernel_rfl)
   exact ⟨(q.1, (q.2.1 * q.2.1).tmod x2, q.2.2 / 2), at_eq h (st_congr3 (fun (d0 : Int) (d1 : Int) (d2 : Int) => (⟨[(0, aI d1), (1, aI d2), (2, aI x2), (6, aI 0), (7, aI d0)], []⟩ : St)) (show (q.1 : Int) = ((q.1, (q.2.1 * q.2.1).tmod x2, q.2.2 / 2)).1 from by first | with_reducible rfl | (rfl) | rfl) (show ((Int.tmod (q.2.1 * q.2.1) x2) : Int) = ((q.1, (q.2.1 * q.2.1).tmod x2, q.2.2 / 2)).2.1 from by first | with_reducible rfl | (rfl) | rfl) (show (((q.2.2 / 2 : Nat) : Int) : Int) = ((((q.1, (q.2.1 * q.2.1).tmod x2, q.2.2 / 2)).2.2 : Nat) : Int) from by first | with_reducible rfl | (rfl) | rfl)), (by first | exact powOK_odd hok0 (by omega) (by omega) | exact powOK_even hok0 (by omega) (by omega) (by omega)), (by dsimp only; omega)⟩
 ·replace h1 : ¬ (((q.2.2 : Nat) : Int) > 0) := of_decide_eq_false h1
  refine wp_exit (then_exit (then_exit (in_hit (then_normal (wp_seq ?_)))))
  refine at_regq [] { ts := [6], os := [] } [] gamOK hT h (by kernel_rfl) trivial fun a w h => then_normal (wp_ret ?_)
  exact at_return (q.1, ()) [] h (by kernel_rfl) trivial (congrArg (fun z => (z, ())) (show (q.1) = powD x0 x1 x2 from by (have e := hok0.1; rw [show q.2.2 = 0 by omega, LA.pmL_zero] at e; exact e)))

def validV (x0 : (List Int)) : Bool := (if (List.all x0 isEl) = true then decide (((List.length x0 : Nat) : Int) ≤ 40) else false)
abbrev Q_impl_IsValidVector := (fun (x0 : (List Int)) => Sh.fit s27 x0)
def S_impl_IsValidVector : Sum := { fid := 66, dom := [s27], cod := [(.bool 4)], dp := true, fz := false, pre := fun x => Q_impl_IsValidVector x.1, g := fun x => ((validV x.1), ()) }
def S_impl_IsValidVector_tab : List (Nat × Sum) := [(80, S_impl_IsElement)]
theorem S_impl_IsValidVector_ok : FnOK Tryz.prog 66 S_impl_IsValidVector := by
 refine at_enter 18 (fun x => ⟨[(0, aF (.int 3) x.1)], []⟩) Tryz.func66 rfl (by kernel_rfl) (fun x => rfl) ?_
 rintro w0 Z0 ⟨x0, u⟩ a w
 revert x0
 intro (x0 : (List Int)) hpre hlens h
 replace hpre : Q_impl_IsValidVector x0 := hpre
 have hT : TabOK Tryz.prog w0 [] S_impl_IsValidVector_tab := (.cons S_impl_IsElement_ok .nil)
 have hf0 : Sh.fit s27 x0 := hpre
 have hn0_1 : List.length x0 ≤ 1073741824 := hf0.1
 refine wp_seq ?_
 refine at_regq [] { ts := [0, 2], os := [] } [] gamOK hT h (by kernel_rfl) trivial fun a w h => then_normal (wp_seq (wp_seq ?_))
 refine at_regq [] { ts := [0, 2, 5, 6, 7], os := [] } [] gamOK hT h (by kernel_rfl) trivial fun a w h => then_normal (wp_block ?_)
 replace h := at_out (σ' := ⟨[(0, aF (.int 3) x0), (2, aB false), (5, aF (.int 3) x0), (6, aI ((List.length x0 : Nat) : Int)), (7, aI 0)], []⟩) { ts := [0, 2, 5, 6, 7], os := [] } h (by kernel_rfl)
 refine at_loop (fun i : Nat => (⟨[(0, aF (.int 3) x0), (2, aB false), (5, aF (.int 3) x0), (6, aI ((List.length x0 : Nat) : Int)), (7, aI ((i : Nat) : Int))], []⟩ : St)) (fun i => (i ≤ List.length x0 ∧ allTo1 isEl x0 0 i)) (fun i => List.length x0 - i) (0) h (st_congr1 (fun (d0 : Int) => (⟨[(0, aF (.int 3) x0), (2, aB false), (5, aF (.int 3) x0), (6, aI ((List.length x0 : Nat) : Int)), (7, aI d0)], []⟩ : St)) (show (0 : Int) = (((0) : Nat) : Int) from by first | with_reducible rfl | (rfl) | rfl)) (by exact ⟨Nat.zero_le _, allTo1_zero⟩) ?_
 intro i a w hok0 h
 refine wp_seq ?_
 refine at_regq [] { ts := [0, 2, 5, 6, 7, 8], os := [] } [] gamOK hT h (by kernel_rfl) trivial fun a w h => then_normal (wp_seq ?_)
 refine at_test (decide (((i : Nat) : Int) < ((List.length x0 : Nat) : Int))) h (by kernel_rfl) (fun h1 => ?_) (fun h1 => ?_)
 ·replace h1 : ((i : Nat) : Int) < ((List.length x0 : Nat) : Int) := of_decide_eq_true h1
  refine wp_skip (then_normal (wp_seq (wp_block (wp_seq ?_))))
  refine at_regq [] { ts := [0, 2, 4, 5, 6, 7], os := [] } [(0 : Int) ≤ ((i : Nat) : Int) ∧ ((i : Nat) : Int) < ((List.length x0 : Nat) : Int)] gamOK hT h (by kernel_rfl) ⟨(by refine ⟨?_, ?_⟩ <;> (first | omega | (simp only [lsA]; omega) | (simp <;> omega))), trivial⟩ fun a w h => then_normal (wp_seq ?_)
  refine at_regq [] { ts := [0, 2, 5, 6, 7, 13], os := [] } [True] gamOK hT h (by kernel_rfl) ⟨trivial, trivial⟩ fun a w h => then_normal ?_
  refine at_test (!(isEl (x0.getD i 0))) h (by kernel_rfl) (fun h2 => ?_) (fun h2 => ?_)
  ·replace h2 : (isEl (x0.getD i 0)) = false := notT h2
   refine wp_seq ?_
   refine at_regq [] { ts := [0, 2, 5, 6, 7], os := [] } [] gamOK hT h (by kernel_rfl) trivial fun a w h => then_normal (wp_ret (in_ret (then_ret ?_)))
   have hs3 : (List.all x0 isEl) = false := by exact all_at (z := 0) (i := i) (by omega) (by first | assumption | (simp_all; done))
   refine then_ret (in_ret (then_ret ?_))
   exact at_return (false, ()) [] h (by kernel_rfl) trivial (congrArg (fun z => (z, ())) (show (false) = validV x0 from by first | rfl | (unfold validV; rw [if_neg (neT hs3)])))
  ·replace h2 : (isEl (x0.getD i 0)) = true := notF h2
   have hvh2 := isEl_t h2
   refine wp_skip (in_normal (then_normal ?_))
   refine at_regq [{ nw := true }] { ts := [0, 2, 5, 6, 7], os := [] } [I64 (((i : Nat) : Int) + 1)] gamOK hT h (by kernel_rfl) ⟨⟨by first | omega | (simp only [lsA]; omega) | (simp <;> omega), by first | omega | (simp only [lsA]; omega) | (simp <;> omega)⟩, trivial⟩ fun a w h => ?_
   replace h := at_out (σ' := ⟨[(0, aF (.int 3) x0), (2, aB false), (5, aF (.int 3) x0), (6, aI ((List.length x0 : Nat) : Int)), (7, aI (((i : Nat) : Int) + 1))], []⟩) { ts := [0, 2, 5, 6, 7], os := [] } h (by kernel_rfl)
   exact ⟨i + 1, at_eq h (st_congr1 (fun (d0 : Int) => (⟨[(0, aF (.int 3) x0), (2, aB false), (5, aF (.int 3) x0), (6, aI ((List.length x0 : Nat) : Int)), (7, aI d0)], []⟩ : St)) (show (((i : Nat) : Int) + 1 : Int) = (((i + 1) : Nat) : Int) from by first | with_reducible rfl | (omega) | rfl)), (by exact ⟨by omega, allTo1_succ hok0.2 (by first | assumption | (simp_all; done))⟩), (by omega)⟩
 ·replace h1 : ¬ (((i : Nat) : Int) < ((List.length x0 : Nat) : Int)) := of_decide_eq_false h1
  refine wp_exit (then_exit ?_)
  have hs4 : (List.all x0 isEl) = true := by exact all_of (z := 0) (i := i) (by omega) hok0.2
  refine then_exit (in_hit (then_normal (wp_seq ?_)))
  refine at_regq [] { ts := [2], os := [] } [] gamOK hT h (by kernel_rfl) trivial fun a w h => then_normal (wp_ret ?_)
  exact at_return (decide (((List.length x0 : Nat) : Int) ≤ 40), ()) [] h (by kernel_rfl) trivial (congrArg (fun z => (z, ())) (show (decide (((List.length x0 : Nat) : Int) ≤ 40)) = validV x0 from by first | rfl | (unfold validV; rw [if_pos hs4])))
theorem validV_t {v : List Int} (h : validV v = true) : List.length v ≤ 40 ∧ (∀ x ∈ v, LA.El x) ∧ (∀ j, 0 ≤ v.getD j 0 ∧ v.getD j 0 ≤ 1018) := by
 unfold validV at h
 split at h
 ·rename_i ha
  have := of_decide_eq_true h
  exact ⟨by omega, validV_el ha, elB (validV_el ha)⟩
 ·cases h
def scaleV (v : List Int) (k : Int) : List Int := if validV v = true ∧ isEl k = true then LA.scaleS v k else []
theorem scaleV_ok {v : List Int} {k : Int} (hv : validV v = true) (hk : 0 ≤ k ∧ k ≤ 1018) : scaleV v k = LA.scaleS v k := if_pos ⟨hv, inR_true hk⟩
theorem scaleV_len (v : List Int) (k : Int) : (scaleV v k).length ≤ v.length := by unfold scaleV LA.scaleS; split <;> simp
def addV (a b : List Int) (k : Int) : List Int := if (validV a = true ∧ validV b = true ∧ List.length a = List.length b) ∧ isEl k = true then LA.addS a b k else []

abbrev Q_spec_IsValidVector := (fun (x0 : (List Int)) => Sh.fit s27 x0)
def S_spec_IsValidVector : Sum := { fid := 20, dom := [s27], cod := [(.bool 4)], dp := true, fz := false, pre := fun x => Q_spec_IsValidVector x.1, g := fun x => ((validV x.1), ()) }
def S_spec_IsValidVector_tab : List (Nat × Sum) := [(38, S_spec_IsElement)]
theorem S_spec_IsValidVector_ok : FnOK Tryz.prog 20 S_spec_IsValidVector := by
 refine at_enter 19 (fun x => ⟨[(0, aF (.int 3) x.1)], []⟩) Tryz.func20 rfl (by kernel_rfl) (fun x => rfl) ?_
 rintro w0 Z0 ⟨x0, u⟩ a w
 revert x0
 intro (x0 : (List Int)) hpre hlens h
 replace hpre : Q_spec_IsValidVector x0 := hpre
 have hT : TabOK Tryz.prog w0 [] S_spec_IsValidVector_tab := (.cons S_spec_IsElement_ok .nil)
 have hf0 : Sh.fit s27 x0 := hpre
 have hn0_1 : List.length x0 ≤ 1073741824 := hf0.1
 refine wp_seq ?_
 refine at_regq [] { ts := [0, 2], os := [] } [] gamOK hT h (by kernel_rfl) trivial fun a w h => then_normal (wp_seq (wp_seq ?_))
 refine at_regq [] { ts := [0, 2, 3], os := [] } [] gamOK hT h (by kernel_rfl) trivial fun a w h => then_normal (wp_block ?_)
 replace h := at_out (σ' := ⟨[(0, aF (.int 3) x0), (2, aB false), (3, aI 0)], []⟩) { ts := [0, 2, 3], os := [] } h (by kernel_rfl)
 refine at_loop (fun i : Nat => (⟨[(0, aF (.int 3) x0), (2, aB false), (3, aI ((i : Nat) : Int))], []⟩ : St)) (fun i => (i ≤ List.length x0 ∧ allTo1 isEl x0 0 i)) (fun i => List.length x0 - i) (0) h (st_congr1 (fun (d0 : Int) => (⟨[(0, aF (.int 3) x0), (2, aB false), (3, aI d0)], []⟩ : St)) (show (0 : Int) = (((0) : Nat) : Int) from by first | with_reducible rfl | (rfl) | rfl)) (by exact ⟨Nat.zero_le _, allTo1_zero⟩) ?_
 intro i a w hok0 h
 refine wp_seq (wp_seq ?_)
 refine at_regq [] { ts := [0, 2, 3, 7], os := [] } [] gamOK hT h (by kernel_rfl) trivial fun a w h => then_normal ?_
 refine at_test (decide (((i : Nat) : Int) < ((List.length x0 : Nat) : Int))) h (by kernel_rfl) (fun h1 => ?_) (fun h1 => ?_)
 ·replace h1 : ((i : Nat) : Int) < ((List.length x0 : Nat) : Int) := of_decide_eq_true h1
  refine wp_skip (then_normal (wp_seq (wp_block (wp_seq ?_))))
  refine at_regq [] { ts := [0, 2, 3, 15], os := [] } [(0 : Int) ≤ ((i : Nat) : Int) ∧ ((i : Nat) : Int) < ((List.length x0 : Nat) : Int), True] gamOK hT h (by kernel_rfl) ⟨(by refine ⟨?_, ?_⟩ <;> (first | omega | (simp only [lsA]; omega) | (simp <;> omega))), trivial, trivial⟩ fun a w h => then_normal ?_
  refine at_test (!(isEl (x0.getD i 0))) h (by kernel_rfl) (fun h2 => ?_) (fun h2 => ?_)
  ·replace h2 : (isEl (x0.getD i 0)) = false := notT h2
   refine wp_seq ?_
   refine at_regq [] { ts := [0, 2, 3], os := [] } [] gamOK hT h (by kernel_rfl) trivial fun a w h => then_normal (wp_ret (in_ret (then_ret ?_)))
   have hs3 : (List.all x0 isEl) = false := by exact all_at (z := 0) (i := i) (by omega) (by first | assumption | (simp_all; done))
   refine then_ret (in_ret (then_ret ?_))
   exact at_return (false, ()) [] h (by kernel_rfl) trivial (congrArg (fun z => (z, ())) (show (false) = validV x0 from by first | rfl | (unfold validV; rw [if_neg (neT hs3)]; done) | (unfold validV; simp_all)))
  ·replace h2 : (isEl (x0.getD i 0)) = true := notF h2
   have hvh2 := isEl_t h2
   refine wp_skip (in_normal (then_normal ?_))
   refine at_regq [{}, { nw := true }] { ts := [0, 2, 3], os := [] } [I64 (((i : Nat) : Int) + 1)] gamOK hT h (by kernel_rfl) ⟨⟨by first | omega | (simp only [lsA]; omega) | (simp <;> omega), by first | omega | (simp only [lsA]; omega) | (simp <;> omega)⟩, trivial⟩ fun a w h => ?_
   replace h := at_out (σ' := ⟨[(0, aF (.int 3) x0), (2, aB false), (3, aI (((i : Nat) : Int) + 1))], []⟩) { ts := [0, 2, 3], os := [] } h (by kernel_rfl)
   exact ⟨i + 1, at_eq h (st_congr1 (fun (d0 : Int) => (⟨[(0, aF (.int 3) x0), (2, aB false), (3, aI d0)], []⟩ : St)) (show (((i : Nat) : Int) + 1 : Int) = (((i + 1) : Nat) : Int) from by first | with_reducible rfl | (omega) | rfl)), (by exact ⟨by omega, allTo1_succ hok0.2 (by first | assumption | (simp_all; done))⟩), (by omega)⟩
 ·replace h1 : ¬ (((i : Nat) : Int) < ((List.length x0 : Nat) : Int)) := of_decide_eq_false h1
  refine wp_exit (then_exit ?_)
  have hs4 : (List.all x0 isEl) = true := by exact all_of (z := 0) (i := i) (by omega) hok0.2
  refine then_exit (in_hit (then_normal (wp_seq ?_)))
  refine at_regq [] { ts := [2], os := [] } [] gamOK hT h (by kernel_rfl) trivial fun a w h => then_normal (wp_ret ?_)
  exact at_return (decide (((List.length x0 : Nat) : Int) ≤ 40), ()) [] h (by kernel_rfl) trivial (congrArg (fun z => (z, ())) (show (decide (((List.length x0 : Nat) : Int) ≤ 40)) = validV x0 from by first | rfl | (unfold validV; rw [if_pos hs4]; done) | (unfold validV; simp_all)))

def l5P (x0 : (List Int)) (x1 : (List Int)) : Bool := (if (validV x0) = true then (if (validV x1) = true then decide (((List.length x0 : Nat) : Int) = ((List.length x1 : Nat) : Int)) else false) else false)
abbrev Q_spec_l5Pair := (fun (x0 : (List Int)) (x1 : (List Int)) => Sh.fit s27 x0 ∧ Sh.fit s27 x1)
def S_spec_l5Pair : Sum := { fid := 63, dom := [s27, s27], cod := [(.bool 4)], dp := true, fz := false, pre := fun x => Q_spec_l5Pair x.1 x.2.1, g := fun x => ((l5P x.1 x.2.1), ()) }
def S_spec_l5Pair_tab : List (Nat × Sum) := [(20, S_spec_IsValidVector)]
theorem S_spec_l5Pair_ok : FnOK Tryz.prog 63 S_spec_l5Pair := by
 refine at_enter 18 (fun x => ⟨[(0, aF (.int 3) x.1), (1, aF (.int 3) x.2.1)], []⟩) Tryz.func63 rfl (by kernel_rfl) (fun x => rfl) ?_
 rintro w0 Z0 ⟨x0, x1, u⟩ a w
 revert x0 x1
 intro (x0 : (List Int)) (x1 : (List Int)) hpre hlens h
 replace hpre : Q_spec_l5Pair x0 x1 := hpre
 have hT : TabOK Tryz.prog w0 [] S_spec_l5Pair_tab := (.cons S_spec_IsValidVector_ok .nil)
 obtain ⟨hf0, hf1⟩ := hpre
 have hn0_1 : List.length x0 ≤ 1073741824 := hf0.1
 have hn1_2 : List.length x1 ≤ 1073741824 := hf1.1
 refine wp_seq ?_
 refine at_regq [] { ts := [0, 1, 4], os := [] } [] gamOK hT h (by kernel_rfl) trivial fun a w h => then_normal (wp_seq ?_)
 rcases Bool.eq_false_or_eq_true ((validV x0)) with h1 | h1
 ·have hvh1 := validV_t h1
  rcases Bool.eq_false_or_eq_true ((validV x1)) with h2 | h2
  ·have hvh2 := validV_t h2
   refine at_regq [{}, { hint := some (aB true) }, {}, {}, { hint := some (aB true) }] { ts := [4], os := [] } [Q_spec_IsValidVector x0, (AV.p (.c (.v (.bool ((validV x0))))) = AV.p (.c (.v (.bool true)))), Q_spec_IsValidVector x1, (AV.p (.c (.v (.bool ((validV x1))))) = AV.p (.c (.v (.bool true))))] gamOK hT h (by kernel_rfl) ⟨(by exact hf0), hint_bool (h1), (by exact hf1), hint_bool (h2), trivial⟩ fun a w h => then_normal (wp_ret ?_)
   exact at_return (decide (((List.length x0 : Nat) : Int) = ((List.length x1 : Nat) : Int)), ()) [] h (by kernel_rfl) trivial (congrArg (fun z => (z, ())) (show (decide (((List.length x0 : Nat) : Int) = ((List.length x1 : Nat) : Int))) = l5P x0 x1 from by first | rfl | (unfold l5P; rw [if_pos h1, if_pos h2])))
  ·refine at_regq [{}, { hint := some (aB true) }, {}, {}, { hint := some (aB false) }] { ts := [4], os := [] } [Q_spec_IsValidVector x0, (AV.p (.c (.v (.bool ((validV x0))))) = AV.p (.c (.v (.bool true)))), Q_spec_IsValidVector x1, (AV.p (.c (.v (.bool ((validV x1))))) = AV.p (.c (.v (.bool false))))] gamOK hT h (by kernel_rfl) ⟨(by exact hf0), hint_bool (h1), (by exact hf1), hint_bool (h2), trivial⟩ fun a w h => then_normal (wp_ret ?_)
   exact at_return (false, ()) [] h (by kernel_rfl) trivial (congrArg (fun z => (z, ())) (show (false) = l5P x0 x1 from by first | rfl | (unfold l5P; rw [if_pos h1, if_neg (neT h2)])))
 ·refine at_regq [{}, { hint := some (aB false) }] { ts := [4], os := [] } [Q_spec_IsValidVector x0, (AV.p (.c (.v (.bool ((validV x0))))) = AV.p (.c (.v (.bool false))))] gamOK hT h (by kernel_rfl) ⟨(by exact hf0), hint_bool (h1), trivial⟩ fun a w h => then_normal (wp_ret ?_)
  exact at_return (false, ()) [] h (by kernel_rfl) trivial (congrArg (fun z => (z, ())) (show (false) = l5P x0 x1 from by first | rfl | (unfold l5P; rw [if_neg (neT h1)])))
theorem l5P_t {a b : List Int} (h : l5P a b = true) : validV a = true ∧ validV b = true ∧ List.length a = List.length b := by
 unfold l5P at h
 split at h
 ·split at h
  ·have := of_decide_eq_true h; exact ⟨by assumption, by assumption, by omega⟩
  ·cases h
 ·cases h
theorem l5P_of {a b : List Int} (h : validV a = true ∧ validV b = true ∧ List.length a = List.length b) : l5P a b = true := by
 unfold l5P; rw [if_pos h.1, if_pos h.2.1]; exact decide_eq_true (by omega)
theorem l5P_v {a b : List Int} (h : l5P a b = true) : (List.length a = List.length b ∧ List.length a ≤ 40) ∧ (∀ j, 0 ≤ a.getD j 0 ∧ a.getD j 0 ≤ 1018) ∧ (∀ j, 0 ≤ b.getD j 0 ∧ b.getD j 0 ≤ 1018) := by
 have h := l5P_t h
 exact ⟨⟨h.2.2, (validV_t h.1).1⟩, (validV_t h.1).2.2, (validV_t h.2.1).2.2⟩
theorem addV_ok {a b : List Int} {k : Int} (ha : validV a = true) (hb : validV b = true) (hl : List.length a = List.length b) (hk : 0 ≤ k ∧ k ≤ 1018) : addV a b k = LA.addS a b k := if_pos ⟨⟨ha, hb, hl⟩, inR_true hk⟩
theorem addV_len (a b : List Int) (k : Int) : (addV a b k).length ≤ a.length := by unfold addV LA.addS; split <;> simp <;> omega

abbrev Q_spec_AddScaled := (fun (x0 : (List Int)) (x1 : (List Int)) (x2 : Int) => Sh.fit s27 x0 ∧ Sh.fit s27 x1)
def S_spec_AddScaled : Sum := { fid := 39, dom := [s27, s27, (.int 3)], cod := [s27], dp := true, fz := false, pre := fun x => Q_spec_AddScaled x.1 x.2.1 x.2.2.1, g := fun x => ((addV x.1 x.2.1 x.2.2.1), ()) }
def S_spec_AddScaled_tab : List (Nat × Sum) := [(63, S_spec_l5Pair), (38, S_spec_IsElement)]
theorem S_spec_AddScaled_ok : FnOK Tryz.prog 39 S_spec_AddScaled := by
 refine at_enter 42 (fun x => ⟨[(0, aF (.int 3) x.1), (1, aF (.int 3) x.2.1), (2, aI x.2.2.1)], []⟩) Tryz.func39 rfl (by kernel_rfl) (fun x => rfl) ?_
 rintro w0 Z0 ⟨x0, x1, x2, u⟩ a w
 revert x0 x1 x2
 intro (x0 : (List Int)) (x1 : (List Int)) (x2 : Int) hpre hlens h
 replace hpre : Q_spec_AddScaled x0 x1 x2 := hpre
 have hT : TabOK Tryz.prog w0 [] S_spec_AddScaled_tab := (.cons S_spec_l5Pair_ok (.cons S_spec_IsElement_ok .nil))
 obtain ⟨hf0, hf1⟩ := hpre
 have hn0_1 : List.length x0 ≤ 1073741824 := hf0.1
 have hn1_2 : List.length x1 ≤ 1073741824 := hf1.1
 refine wp_seq ?_
 refine at_regq [] { ts := [0, 1, 2, 6], os := [] } [] gamOK hT h (by kernel_rfl) trivial fun a w h => then_normal (wp_seq ?_)
 refine at_regq [{ ids := [1] }] { ts := [0, 1, 2, 6, 7], os := [1] } [] gamOK hT h (by kernel_rfl) trivial fun a w h => then_normal (wp_seq (wp_seq ?_))
 rcases Bool.eq_false_or_eq_true (!(l5P x0 x1)) with h1 | h1
 ·have hzh1 : (l5P x0 x1) = false := notT h1
  refine at_regq [{}, {}, {}, { hint := some (aB true) }] { ts := [0, 1, 2, 6, 7, 18], os := [1] } [Q_spec_l5Pair x0 x1, (AV.p (.c (.v (.bool (!(l5P x0 x1))))) = AV.p (.c (.v (.bool true))))] gamOK hT h (by kernel_rfl) ⟨(by exact ⟨hf0, hf1⟩), hint_bool (h1), trivial⟩ fun a w h => then_normal ?_
  refine at_test true h (by kernel_rfl) (fun hh => ?_) (fun hh => nomatch hh)
  refine wp_seq ?_
  refine at_regq [] { ts := [0, 1, 2, 6, 7], os := [1] } [] gamOK hT h (by kernel_rfl) trivial fun a w h => then_normal (wp_ret (then_ret ?_))
  exact at_return (([] : List Int), ()) [] h (by kernel_rfl) trivial (congrArg (fun z => (z, ())) (show (([] : List Int)) = addV x0 x1 x2 from by (unfold addV; first | (have hl : List.length x0 = List.length x1 := (l5P_t (by assumption)).2.2; rw [if_pos ⟨l5P_t (by assumption), by assumption⟩, take_all (by rw [LA.addS_len hl]; omega)]; done) | (rw [if_neg (fun e => by have := l5P_of e.1; simp_all)]; done))))
 ·have hzh1 : (l5P x0 x1) = true := notF h1
  have hvh1 := l5P_v (notF h1)
  refine at_regq [{}, {}, {}, { hint := some (aB false) }] { ts := [0, 1, 2, 6, 7, 18], os := [1] } [Q_spec_l5Pair x0 x1, (AV.p (.c (.v (.bool (!(l5P x0 x1))))) = AV.p (.c (.v (.bool false)))), True] gamOK hT h (by kernel_rfl) ⟨(by exact ⟨hf0, hf1⟩), hint_bool (h1), trivial, trivial⟩ fun a w h => then_normal ?_
  refine at_test (!(isEl x2)) h (by kernel_rfl) (fun h2 => ?_) (fun h2 => ?_)
  ·replace h2 : (isEl x2) = false := notT h2
   refine wp_seq ?_
   refine at_regq [] { ts := [0, 1, 2, 6, 7], os := [1] } [] gamOK hT h (by kernel_rfl) trivial fun a w h => then_normal (wp_ret (then_ret ?_))
   exact at_return (([] : List Int), ()) [] h (by kernel_rfl) trivial (congrArg (fun z => (z, ())) (show (([] : List Int)) = addV x0 x1 x2 from by (unfold addV; first | (have hl : List.length x0 = List.length x1 := (l5P_t (by assumption)).2.2; rw [if_pos ⟨l5P_t (by assumption), by assumption⟩, take_all (by rw [LA.addS_len hl]; omega)]; done) | (rw [if_neg (fun e => by have := l5P_of e.1; simp_all)]; done))))
  ·replace h2 : (isEl x2) = true := notF h2
   have hvh2 := isEl_t h2
   refine wp_skip (then_normal (wp_seq (wp_seq ?_)))
   refine at_regq [] { ts := [0, 1, 2, 6, 7, 8], os := [1] } [] gamOK hT h (by kernel_rfl) trivial fun a w h => then_normal (wp_block ?_)
   replace h := at_out (σ' := ⟨[(0, aF (.int 3) x0), (1, aF (.int 3) x1), (2, aI x2), (6, .p (.c (cN))), (7, aS 1), (8, aI 0)], [(1, oR (.int 3) ([] : List Int))]⟩) { ts := [0, 1, 2, 6, 7, 8], os := [1] } h (by kernel_rfl)
   refine at_loop (fun i : Nat => (⟨[(0, aF (.int 3) x0), (1, aF (.int 3) x1), (2, aI x2), (6, .p (.c (cN))), (7, aS 1), (8, aI ((i : Nat) : Int))], [(1, oR (.int 3) (List.take i (LA.addS x0 x1 x2)))]⟩ : St)) (fun i => i ≤ List.length x0) (fun i => List.length x0 - i) (0) h (st_congr2 (fun (d0 : List Int) (d1 : Int) => (⟨[(0, aF (.int 3) x0), (1, aF (.int 3) x1), (2, aI x2), (6, .p (.c (cN))), (7, aS 1), (8, aI d1)], [(1, oR (.int 3) d0)]⟩ : St)) (show (([] : List Int) : List Int) = (List.take (0) (LA.addS x0 x1 x2)) from by first | with_reducible rfl | (rfl) | rfl) (show (0 : Int) = (((0) : Nat) : Int) from by first | with_reducible rfl | (rfl) | rfl)) (by omega) ?_
   intro i a w hok0 h
   have hlt := addS_take_le x0 x1 x2 i
   refine wp_seq (wp_seq ?_)
   refine at_regq [] { ts := [0, 1, 2, 6, 7, 8, 23], os := [1] } [] gamOK hT h (by kernel_rfl) trivial fun a w h => then_normal ?_
   refine at_test (decide (((i : Nat) : Int) < ((List.length x0 : Nat) : Int))) h (by kernel_rfl) (fun h3 => ?_) (fun h3 => ?_)
   ·replace h3 : ((i : Nat) : Int) < ((List.length x0 : Nat) : Int) := of_decide_eq_true h3
    have hx1 := (l5P_v (a := x0) (b := x1) (by assumption)).2.1 i
    have hx2 := (l5P_v (a := x0) (b := x1) (by assumption)).2.2 i
    refine wp_skip (then_normal (wp_seq (wp_block ?_)))
    refine at_anyq [{}, {}, {}, {}, {}, {}, {}, {}, {}, {}, { nw := true }, { nw := true }, {}, { ids := [2] }, { ids := [3] }, {}] { ts := [0, 1, 2, 6, 7, 8], os := [3] } [(0 : Int) ≤ ((i : Nat) : Int) ∧ ((i : Nat) : Int) < ((List.length x0 : Nat) : Int), (0 : Int) ≤ ((i : Nat) : Int) ∧ ((i : Nat) : Int) < ((List.length x1 : Nat) : Int), I64 ((x1.getD i 0) * x2), I64 ((x0.getD i 0) + ((x1.getD i 0) * x2)), (1019 : Int) ≠ 0, (List.length (List.take i (LA.addS x0 x1 x2)) + List.length ([(Int.tmod ((x0.getD i 0) + ((x1.getD i 0) * x2)) 1019)])) * 8 ≤ 140737488355328] gamOK hT mixed h (by kernel_rfl) ⟨(by refine ⟨?_, ?_⟩ <;> (first | omega | (simp only [lsA]; omega) | (simp <;> omega))), (by refine ⟨?_, ?_⟩ <;> (first | omega | (simp only [lsA]; omega) | (simp <;> omega))), ⟨by (have hA0 := mul_f (x1.getD i 0) x2; first | omega | (simp only [lsA]; omega) | (simp <;> omega)), by (have hA0 := mul_f (x1.getD i 0) x2; first | omega | (simp only [lsA]; omega) | (simp <;> omega))⟩, ⟨by (have hA0 := mul_f (x1.getD i 0) x2; first | omega | (simp only [lsA]; omega) | (simp <;> omega)), by (have hA0 := mul_f (x1.getD i 0) x2; first | omega | (simp only [lsA]; omega) | (simp <;> omega))⟩, (by first | omega | (simp only [lsA]; omega) | (simp <;> omega)), (by (have hA0 := mul_f (x1.getD i 0) x2; have hA1 := tmod_f ((x0.getD i 0) + ((x1.getD i 0) * x2)) 1019; have hL2 := (show List.length (List.take i (LA.addS x0 x1 x2)) ≤ 1073741824 from ((Sh.fit_take (Sh.fit_len (t := 27) (s := .int 3) rfl (by simp [LA.addS]; omega)) i)).1); first | omega | (simp only [lsA]; omega) | (simp <;> omega))), trivial⟩ fun a w h => in_normal (then_normal ?_)
    refine at_regq [{}, { nw := true }] { ts := [0, 1, 2, 6, 7, 8], os := [3] } [I64 (((i : Nat) : Int) + 1)] gamOK hT h (by kernel_rfl) ⟨⟨by first | omega | (simp only [lsA]; omega) | (simp <;> omega), by first | omega | (simp only [lsA]; omega) | (simp <;> omega)⟩, trivial⟩ fun a w h => ?_
    replace h := at_out (σ' := ⟨[(0, aF (.int 3) x0), (1, aF (.int 3) x1), (2, aI x2), (6, .p (.c (cN))), (7, aS 1), (8, aI (((i : Nat) : Int) + 1))], [(1, oR (.int 3) ((List.take i (LA.addS x0 x1 x2)) ++ ([(Int.tmod ((x0.getD i 0) + ((x1.getD i 0) * x2)) 1019)])))]⟩) { ts := [0, 1, 2, 6, 7, 8], os := [3], rn := [(3, 1)] } h (by kernel_rfl)
    exact ⟨i + 1, at_eq h (st_congr2 (fun (d0 : List Int) (d1 : Int) => (⟨[(0, aF (.int 3) x0), (1, aF (.int 3) x1), (2, aI x2), (6, .p (.c (cN))), (7, aS 1), (8, aI d1)], [(1, oR (.int 3) d0)]⟩ : St)) (show (((List.take i (LA.addS x0 x1 x2)) ++ ([(Int.tmod ((x0.getD i 0) + ((x1.getD i 0) * x2)) 1019)])) : List Int) = (List.take (i + 1) (LA.addS x0 x1 x2)) from by first | with_reducible rfl | ((have hl : List.length x0 = List.length x1 := (l5P_t (by assumption)).2.2; rw [take_snoc (z := 0) (by rw [LA.addS_len hl]; omega), LA.addS_at hl, Int.mul_comm]; done)) | rfl) (show (((i : Nat) : Int) + 1 : Int) = (((i + 1) : Nat) : Int) from by first | with_reducible rfl | (omega) | rfl)), (by omega), (by omega)⟩
   ·replace h3 : ¬ (((i : Nat) : Int) < ((List.length x0 : Nat) : Int)) := of_decide_eq_false h3
    refine wp_exit (then_exit (then_exit (in_hit (then_normal (wp_seq ?_)))))
    refine at_regq [] { ts := [6], os := [1] } [] gamOK hT h (by kernel_rfl) trivial fun a w h => then_normal (wp_ret ?_)
    exact at_return ((List.take i (LA.addS x0 x1 x2)), ()) [] h (by kernel_rfl) trivial (congrArg (fun z => (z, ())) (show ((List.take i (LA.addS x0 x1 x2))) = addV x0 x1 x2 from by (unfold addV; first | (have hl : List.length x0 = List.length x1 := (l5P_t (by assumption)).2.2; rw [if_pos ⟨l5P_t (by assumption), by assumption⟩, take_all (by rw [LA.addS_len hl]; omega)]; done) | (rw [if_neg (fun e => by have := l5P_of e.1; simp_all)]; done))))

def validM (x0 : (List (List Int))) : Bool := (if (List.all x0 (fun r => validV r && decide (List.length r = List.length (x0.getD 0 [])))) = true then decide (((List.length x0 : Nat) : Int) ≤ 40) else false)
abbrev Q_spec_IsValidMatrix := (fun (x0 : (List (List Int))) => Sh.fit s24 x0)
def S_spec_IsValidMatrix : Sum := { fid := 37, dom := [s24], cod := [(.bool 4)], dp := true, fz := false, pre := fun x => Q_spec_IsValidMatrix x.1, g := fun x => ((validM x.1), ()) }
def S_spec_IsValidMatrix_tab : List (Nat × Sum) := [(20, S_spec_IsValidVector)]
theorem S_spec_IsValidMatrix_ok : FnOK Tryz.prog 37 S_spec_IsValidMatrix := by
 refine at_enter 31 (fun x => ⟨[(0, aF s27 x.1)], []⟩) Tryz.func37 rfl (by kernel_rfl) (fun x => rfl) ?_
 rintro w0 Z0 ⟨x0, u⟩ a w
 revert x0
 intro (x0 : (List (List Int))) hpre hlens h
 replace hpre : Q_spec_IsValidMatrix x0 := hpre
 have hT : TabOK Tryz.prog w0 [] S_spec_IsValidMatrix_tab := (.cons S_spec_IsValidVector_ok .nil)
 have hf0 : Sh.fit s24 x0 := hpre
 have hn0_1 : List.length x0 ≤ 1073741824 := hf0.1
 refine wp_seq ?_
 refine at_regq [] { ts := [0, 2], os := [] } [] gamOK hT h (by kernel_rfl) trivial fun a w h => then_normal (wp_seq (wp_seq ?_))
 refine at_regq [] { ts := [0, 2, 3], os := [] } [] gamOK hT h (by kernel_rfl) trivial fun a w h => then_normal (wp_block ?_)
 replace h := at_out (σ' := ⟨[(0, aF s27 x0), (2, aB false), (3, aI 0)], []⟩) { ts := [0, 2, 3], os := [] } h (by kernel_rfl)
 refine at_loop (fun i : Nat => (⟨[(0, aF s27 x0), (2, aB false), (3, aI ((i : Nat) : Int))], []⟩ : St)) (fun i => (i ≤ List.length x0 ∧ allTo1 (fun r => validV r && decide (List.length r = List.length (x0.getD 0 []))) x0 [] i)) (fun i => List.length x0 - i) (0) h (st_congr1 (fun (d0 : Int) => (⟨[(0, aF s27 x0), (2, aB false), (3, aI d0)], []⟩ : St)) (show (0 : Int) = (((0) : Nat) : Int) from by first | with_reducible rfl | (rfl) | rfl)) (by exact ⟨Nat.zero_le _, allTo1_zero⟩) ?_
 intro i a w hok0 h
 refine wp_seq (wp_seq ?_)
 refine at_regq [] { ts := [0, 2, 3, 7], os := [] } [] gamOK hT h (by kernel_rfl) trivial fun a w h => then_normal ?_
 refine at_test (decide (((i : Nat) : Int) < ((List.length x0 : Nat) : Int))) h (by kernel_rfl) (fun h1 => ?_) (fun h1 => ?_)
 ·replace h1 : ((i : Nat) : Int) < ((List.length x0 : Nat) : Int) := of_decide_eq_true h1
  refine wp_skip (then_normal (wp_seq (wp_block (wp_seq ?_))))
  rcases Bool.eq_false_or_eq_true (!(validV (x0.getD i []))) with h2 | h2
  ·have hzh2 : (validV (x0.getD i [])) = false := notT h2
   refine at_anyq [{}, {}, {}, {}, {}, { hint := some (aB true) }, {}, {}, {}, {}, {}, {}, {}, {}, {}, {}, {}, {}] { ts := [0, 2, 3, 17, 18, 19, 20, 21, 22, 23, 24, 25, 26, 27], os := [] } [(0 : Int) ≤ ((i : Nat) : Int) ∧ ((i : Nat) : Int) < ((List.length x0 : Nat) : Int), Q_spec_IsValidVector (x0.getD i []), (AV.p (.c (.v (.bool (!(validV (x0.getD i [])))))) = AV.p (.c (.v (.bool true))))] gamOK hT mixed h (by kernel_rfl) ⟨(by refine ⟨?_, ?_⟩ <;> (first | omega | (simp only [lsA]; omega) | (simp <;> omega))), (by exact (Sh.fit_getD hf0 i)), hint_bool (h2), trivial⟩ fun a w h => then_normal ?_
   refine at_test true h (by kernel_rfl) (fun hh => ?_) (fun hh => nomatch hh)
   refine wp_seq ?_
   refine at_regq [] { ts := [0, 2, 3, 17, 18, 19, 20, 21, 22, 23, 24, 25, 26], os := [] } [] gamOK hT h (by kernel_rfl) trivial fun a w h => then_normal (wp_ret (in_ret (then_ret ?_)))
   have hs3 : (List.all x0 (fun r => validV r && decide (List.length r = List.length (x0.getD 0 [])))) = false := by exact all_at (z := []) (i := i) (by omega) (by (show ((validV _) && _) = false; rw [Bool.and_eq_false_iff]; first | (left; assumption) | (right; exact decide_eq_false (by omega))))
   refine then_ret (in_ret (then_ret ?_))
   exact at_return (false, ()) [] h (by kernel_rfl) trivial (congrArg (fun z => (z, ())) (show (false) = validM x0 from by first | rfl | (unfold validM; rw [if_neg (neT hs3)])))
  ·have hzh2 : (validV (x0.getD i [])) = true := notF h2
   have hvh2 := validV_t (notF h2)
   refine at_anyq [{}, {}, {}, {}, {}, { hint := some (aB false) }, {}, {}, {}, {}, {}, {}, {}, {}, {}, {}, {}, {}] { ts := [0, 2, 3, 17, 18, 19, 20, 21, 22, 23, 24, 25, 26, 27], os := [] } [(0 : Int) ≤ ((i : Nat) : Int) ∧ ((i : Nat) : Int) < ((List.length x0 : Nat) : Int), Q_spec_IsValidVector (x0.getD i []), (AV.p (.c (.v (.bool (!(validV (x0.getD i [])))))) = AV.p (.c (.v (.bool false)))), (0 : Int) ≤ ((i : Nat) : Int) ∧ ((i : Nat) : Int) < ((List.length x0 : Nat) : Int), (0 : Int) ≤ 0 ∧ 0 < ((List.length x0 : Nat) : Int)] gamOK hT mixed h (by kernel_rfl) ⟨(by refine ⟨?_, ?_⟩ <;> (first | omega | (simp only [lsA]; omega) | (simp <;> omega))), (by exact (Sh.fit_getD hf0 i)), hint_bool (h2), (by refine ⟨?_, ?_⟩ <;> (first | omega | (simp only [lsA]; omega) | (simp <;> omega))), (by refine ⟨?_, ?_⟩ <;> (first | omega | (simp only [lsA]; omega) | (simp <;> omega))), trivial⟩ fun a w h => then_normal ?_
   refine at_test (!decide (((List.length (x0.getD i []) : Nat) : Int) = ((List.length (x0.getD 0 []) : Nat) : Int))) h (by kernel_rfl) (fun h4 => ?_) (fun h4 => ?_)
   ·replace h4 : ¬ (((List.length (x0.getD i []) : Nat) : Int) = ((List.length (x0.getD 0 []) : Nat) : Int)) := of_decide_eq_false (notT h4)
    refine wp_seq ?_
    refine at_regq [] { ts := [0, 2, 3, 17, 18, 19, 20, 21, 22, 23, 24, 25, 26], os := [] } [] gamOK hT h (by kernel_rfl) trivial fun a w h => then_normal (wp_ret (in_ret (then_ret ?_)))
    have hs5 : (List.all x0 (fun r => validV r && decide (List.length r = List.length (x0.getD 0 [])))) = false := by exact all_at (z := []) (i := i) (by omega) (by (show ((validV _) && _) = false; rw [Bool.and_eq_false_iff]; first | (left; assumption) | (right; exact decide_eq_false (by omega))))
    refine then_ret (in_ret (then_ret ?_))
    exact at_return (false, ()) [] h (by kernel_rfl) trivial (congrArg (fun z => (z, ())) (show (false) = validM x0 from by first | rfl | (unfold validM; rw [if_neg (neT hs5)])))
   ·replace h4 : ((List.length (x0.getD i []) : Nat) : Int) = ((List.length (x0.getD 0 []) : Nat) : Int) := of_decide_eq_true (notF h4)
    refine wp_skip (in_normal (then_normal ?_))
    refine at_regq [{}, { nw := true }] { ts := [0, 2, 3, 17, 18, 19, 20, 21, 22, 23, 24, 25, 26], os := [] } [I64 (((i : Nat) : Int) + 1)] gamOK hT h (by kernel_rfl) ⟨⟨by first | omega | (simp only [lsA]; omega) | (simp <;> omega), by first | omega | (simp only [lsA]; omega) | (simp <;> omega)⟩, trivial⟩ fun a w h => ?_
    replace h := at_out (σ' := ⟨[(0, aF s27 x0), (2, aB false), (3, aI (((i : Nat) : Int) + 1))], []⟩) { ts := [0, 2, 3], os := [] } h (by kernel_rfl)
    exact ⟨i + 1, at_eq h (st_congr1 (fun (d0 : Int) => (⟨[(0, aF s27 x0), (2, aB false), (3, aI d0)], []⟩ : St)) (show (((i : Nat) : Int) + 1 : Int) = (((i + 1) : Nat) : Int) from by first | with_reducible rfl | (omega) | rfl)), (by exact ⟨by omega, allTo1_succ hok0.2 (by (show ((validV _) && _) = true; rw [Bool.and_eq_true]; exact ⟨by assumption, decide_eq_true (by omega)⟩))⟩), (by omega)⟩
 ·replace h1 : ¬ (((i : Nat) : Int) < ((List.length x0 : Nat) : Int)) := of_decide_eq_false h1
  refine wp_exit (then_exit ?_)
  have hs6 : (List.all x0 (fun r => validV r && decide (List.length r = List.length (x0.getD 0 [])))) = true := by exact all_of (z := []) (i := i) (by omega) hok0.2
  refine then_exit (in_hit (then_normal (wp_seq ?_)))
  refine at_regq [] { ts := [2], os := [] } [] gamOK hT h (by kernel_rfl) trivial fun a w h => then_normal (wp_ret ?_)
  exact at_return (decide (((List.length x0 : Nat) : Int) ≤ 40), ()) [] h (by kernel_rfl) trivial (congrArg (fun z => (z, ())) (show (decide (((List.length x0 : Nat) : Int) ≤ 40)) = validM x0 from by first | rfl | (unfold validM; rw [if_pos hs6])))
theorem validM_t {m : List (List Int)} (h : validM m = true) : List.length m ≤ 40 ∧ (∀ r ∈ m, validV r = true ∧ List.length r = List.length (m.getD 0 [])) := by
 unfold validM at h
 split at h
 ·rename_i ha
  have := of_decide_eq_true h
  refine ⟨by omega, fun r hr => ?_⟩
  have := List.all_eq_true.1 ha r hr
  rw [Bool.and_eq_true] at this
  exact ⟨this.1, of_decide_eq_true this.2⟩
 ·cases h
theorem validM_ok {m : List (List Int)} (h : validM m = true) : ∀ r ∈ m, LA.VokB (List.length (m.getD 0 [])) r := fun r hr => ⟨((validM_t h).2 r hr).2, (validV_t ((validM_t h).2 r hr).1).2.1⟩
theorem validM_at {m : List (List Int)} (h : validM m = true) (j : Nat) (hj : j < m.length) : List.length (m.getD j []) = List.length (m.getD 0 []) := ((validM_t h).2 _ (getD_mem hj)).2

def colsOf (x0 : (List (List Int))) : Int := (if ((List.length x0 : Nat) : Int) = 0 then 0 else ((List.length (x0.getD 0 []) : Nat) : Int))
abbrev Q_spec_ColumnsOf := (fun (x0 : (List (List Int))) => Sh.fit s24 x0)
def S_spec_ColumnsOf : Sum := { fid := 34, dom := [s24], cod := [(.int 3)], dp := true, fz := false, pre := fun x => Q_spec_ColumnsOf x.1, g := fun x => ((colsOf x.1), ()) }
def S_spec_ColumnsOf_tab : List (Nat × Sum) := []
theorem S_spec_ColumnsOf_ok : FnOK Tryz.prog 34 S_spec_ColumnsOf := by
 refine at_enter 10 (fun x => ⟨[(0, aF s27 x.1)], []⟩) Tryz.func34 rfl (by kernel_rfl) (fun x => rfl) ?_
 rintro w0 Z0 ⟨x0, u⟩ a w
 revert x0
 intro (x0 : (List (List Int))) hpre hlens h
 replace hpre : Q_spec_ColumnsOf x0 := hpre
 have hT : TabOK Tryz.prog w0 [] S_spec_ColumnsOf_tab := .nil
 have hf0 : Sh.fit s24 x0 := hpre
 have hn0_1 : List.length x0 ≤ 1073741824 := hf0.1
 refine wp_seq ?_
 refine at_regq [] { ts := [0, 2], os := [] } [] gamOK hT h (by kernel_rfl) trivial fun a w h => then_normal (wp_seq (wp_seq ?_))
 refine at_regq [] { ts := [0, 2, 5], os := [] } [] gamOK hT h (by kernel_rfl) trivial fun a w h => then_normal ?_
 refine at_test (decide (((List.length x0 : Nat) : Int) = 0)) h (by kernel_rfl) (fun h1 => ?_) (fun h1 => ?_)
 ·replace h1 : ((List.length x0 : Nat) : Int) = 0 := of_decide_eq_true h1
  refine wp_seq ?_
  refine at_regq [] { ts := [0, 2], os := [] } [] gamOK hT h (by kernel_rfl) trivial fun a w h => then_normal (wp_ret (then_ret ?_))
  exact at_return (0, ()) [] h (by kernel_rfl) trivial (congrArg (fun z => (z, ())) (show (0) = colsOf x0 from by first | rfl | (unfold colsOf; rw [if_pos h1])))
 ·replace h1 : ¬ (((List.length x0 : Nat) : Int) = 0) := of_decide_eq_false h1
  refine wp_skip (then_normal (wp_seq ?_))
  refine at_regq [] { ts := [2], os := [] } [(0 : Int) ≤ 0 ∧ 0 < ((List.length x0 : Nat) : Int)] gamOK hT h (by kernel_rfl) ⟨(by refine ⟨?_, ?_⟩ <;> (first | omega | (simp only [lsA]; omega) | (simp <;> omega))), trivial⟩ fun a w h => then_normal (wp_ret ?_)
  exact at_return (((List.length (x0.getD 0 []) : Nat) : Int), ()) [] h (by kernel_rfl) trivial (congrArg (fun z => (z, ())) (show (((List.length (x0.getD 0 []) : Nat) : Int)) = colsOf x0 from by first | rfl | (unfold colsOf; rw [if_neg h1])))

theorem fitV {n : Nat} {v : List Int} (h : LA.VokB n v) (hn : n ≤ 40) : Sh.fit s27 v := Sh.fit_len rfl (by have := h.1; omega)
theorem validV_of {n : Nat} {v : List Int} (h : LA.VokB n v) (hn : n ≤ 40) : validV v = true := by
 unfold validV
 rw [if_pos (show List.all v isEl = true from List.all_eq_true.2 fun x hx => inR_true (h.2 x hx))]
 exact decide_eq_true (by have := h.1; omega)
theorem addV_L {n : Nat} {a b : List Int} {k : Int} (ha : LA.VokB n a) (hb : LA.VokB n b) (hn : n ≤ 40) (hk : 0 ≤ k ∧ k ≤ 1018) : addV a b k = LA.addS a b k := addV_ok (validV_of ha hn) (validV_of hb hn) (by rw [ha.1, hb.1]) hk
abbrev GF := Fin 2039
def gc (x : Int) : GF := Fin.ofNat 2039 x.toNat
theorem gc_val (x : Int) : (gc x).val = x.toNat % 2039 := rfl
theorem gc_inj {x y : Int} (hx : 0 ≤ x ∧ x < 2039) (hy : 0 ≤ y ∧ y < 2039) (h : gc x = gc y) : x = y := by
 have := congrArg Fin.val h
 rw [gc_val, gc_val, Nat.mod_eq_of_lt (by omega), Nat.mod_eq_of_lt (by omega)] at this
 omega
theorem gc_mul {x y : Int} (hx : 0 ≤ x) (hy : 0 ≤ y) : gc (x * y) = gc x * gc y := by
 apply Fin.ext
 rw [Fin.val_mul, gc_val, gc_val, gc_val, Int.toNat_mul hx hy, ← Nat.mul_mod]
theorem gc_mod {x : Int} (hx : 0 ≤ x) : gc (x.tmod 2039) = gc x := by
 apply Fin.ext
 rw [gc_val, gc_val, Int.tmod_eq_emod_of_nonneg hx]
 omega
def gpw : Nat → GF → Nat → GF
 | 0, _, _ => 1
 | f + 1, x, n => bif n.beq 0 then 1 else (bif (n % 2).beq 1 then x else 1) * gpw f (x * x) (n / 2)
theorem gpmL_c : ∀ (f n : Nat) (out a : Int), n < 2 ^ f → 0 ≤ out → 0 ≤ a → gc (LA.pmL 2039 out a n) = gc out * gpw f (gc a) n
 | 0, n, out, a, h, h1, h3 => by
  have : n = 0 := by simpa using h
  rw [this, LA.pmL_zero]; simp only [gpw]; grind
 | f + 1, n, out, a, h, h1, h3 => by
  by_cases h0 : n = 0
  ·rw [h0, LA.pmL_zero]; simp only [gpw]
   show gc out = gc out * 1
   grind
  ·have hn : n / 2 < 2 ^ f := by rw [Nat.pow_succ] at h; omega
   have ha := (LA.tmod_lt (m := 2039) (Int.mul_nonneg h3 h3) (by decide)).1
   have e0 : n.beq 0 = false := by cases n with | zero => exact absurd rfl h0 | succ n => rfl
   by_cases ho : n % 2 = 1
   ·rw [LA.pmL_odd ho, gpmL_c f _ _ _ hn (LA.tmod_lt (Int.mul_nonneg h1 h3) (by decide)).1 ha, gc_mod (Int.mul_nonneg h1 h3), gc_mod (Int.mul_nonneg h3 h3), gc_mul h1 h3, gc_mul h3 h3]
    simp only [gpw, e0, ho, cond_false]
    show _ = gc out * (gc a * _)
    grind
   ·have ho' : n % 2 = 0 := by omega
    rw [LA.pmL_even h0 ho', gpmL_c f _ _ _ hn h1 ha, gc_mod (Int.mul_nonneg h3 h3), gc_mul h3 h3]
    simp only [gpw, e0, ho', cond_false]
    show _ = gc out * (1 * _)
    grind
theorem gpw_mul : ∀ (f n : Nat) (x y : GF), gpw f (x * y) n = gpw f x n * gpw f y n
 | 0, _, _, _ => by simp only [gpw]; decide
 | f + 1, n, x, y => by
  have ih := gpw_mul f (n / 2) (x * x) (y * y)
  simp only [gpw]
  rw [show x * y * (x * y) = (x * x) * (y * y) by grind, ih]
  cases n.beq 0 with
  | true => show (1 : GF) = 1 * 1; decide
  | false =>
   simp only [cond_false]
   cases (n % 2).beq 1 with
   | true => show x * y * _ = (x * _) * (y * _); grind
   | false => show 1 * _ = (1 * _) * (1 * _); grind
theorem gpw_one : ∀ (f n : Nat), gpw f 1 n = 1
 | 0, _ => rfl
 | f + 1, n => by
  have ih := gpw_one f (n / 2)
  simp only [gpw]
  rw [show (1 : GF) * 1 = 1 by decide, ih]
  cases n.beq 0 with
  | true => rfl
  | false => cases (n % 2).beq 1 <;> decide
theorem gpw_pw (f n : Nat) : ∀ (g k : Nat) (x : GF), gpw f (gpw g x k) n = gpw g (gpw f x n) k
 | 0, _, _ => gpw_one f n
 | g + 1, k, x => by
  have ih := gpw_pw f n g (k / 2) (x * x)
  rw [gpw_mul f n x x] at ih
  rw [gpw.eq_2, gpw.eq_2]
  cases k.beq 0 with
  | true => exact gpw_one f n
  | false =>
   simp only [cond_false]
   rw [gpw_mul, ih]
   cases (k % 2).beq 1 with
   | true => rfl
   | false => show gpw f 1 n * _ = 1 * _; rw [gpw_one]
def isGrp (x : Int) : Bool := inR x 1 2038 && decide (powD x 1019 2039 = 1)
theorem pow_bd {a n : Int} (ha : 0 ≤ a ∧ a < 2039) (hn : 0 ≤ n ∧ n ≤ 1019) : 0 ≤ powD a n 2039 ∧ powD a n 2039 < 2039 := powD_bd ⟨ha, ⟨hn.1, by omega⟩, by decide, by decide⟩
theorem pow_gc {a n : Int} (ha : 0 ≤ a ∧ a < 2039) (hn : 0 ≤ n ∧ n ≤ 1019) : gc (powD a n 2039) = gpw 10 (gc a) n.toNat := by
 unfold powD
 rw [gpmL_c 10 _ _ _ (by omega) (by decide) ha.1]
 show (1 : GF) * _ = _
 grind
theorem gpw_zero : gpw 10 0 1019 = 0 := by decide +kernel
theorem isGrp_iff {x : Int} : isGrp x = true ↔ (0 ≤ x ∧ x < 2039) ∧ gpw 10 (gc x) 1019 = 1 := by
 unfold isGrp
 rw [Bool.and_eq_true, decide_eq_true_iff]
 constructor
 ·rintro ⟨h1, h2⟩
  have h1 := inR_t h1
  have h3 := pow_gc (a := x) (n := 1019) (by omega) (by decide)
  rw [h2] at h3
  exact ⟨by omega, h3.symm⟩
 ·rintro ⟨h1, h2⟩
  have h3 := pow_gc (a := x) (n := 1019) h1 (by decide)
  have h4 := pow_bd (a := x) (n := 1019) h1 (by decide)
  have h5 : x ≠ 0 := fun e => by rw [e] at h2; have := gpw_zero; rw [show gc 0 = 0 from rfl, this] at h2; exact absurd h2 (by decide)
  refine ⟨inR_true (by omega), gc_inj h4 (by decide) ?_⟩
  rw [h3]; exact h2
theorem isGrp_t {x : Int} (h : isGrp x = true) : 1 ≤ x ∧ x ≤ 2038 := by
 unfold isGrp at h
 rw [Bool.and_eq_true] at h
 exact inR_t h.1
theorem isGrp_mul {a b : Int} (ha : isGrp a = true) (hb : isGrp b = true) : isGrp ((a * b).tmod 2039) = true := by
 rw [isGrp_iff] at *
 obtain ⟨⟨a1, a2⟩, a3⟩ := ha
 obtain ⟨⟨b1, b2⟩, b3⟩ := hb
 have h := Int.mul_nonneg a1 b1
 refine ⟨LA.tmod_lt h (by decide), ?_⟩
 rw [gc_mod h, gc_mul a1 b1, gpw_mul, a3, b3]; decide
theorem isGrp_pow {a n : Int} (ha : isGrp a = true) (hn : 0 ≤ n ∧ n ≤ 1019) : isGrp (powD a n 2039) = true := by
 rw [isGrp_iff] at *
 refine ⟨pow_bd ha.1 hn, ?_⟩
 rw [pow_gc ha.1 hn, gpw_pw, ha.2, gpw_one]
theorem isGrp_one : isGrp 1 = true := by decide +kernel
def hpw (es xs : List Int) : Nat → Int
 | 0 => 1
 | i + 1 => (hpw es xs i * powD (es.getD i 0) (xs.getD i 0) 2039).tmod 2039
def powsL (es xs : List Int) : Int := hpw es xs es.length
def powsP (es xs : List Int) : Prop := es.length ≤ xs.length ∧ (∀ j, 0 ≤ es.getD j 0 ∧ es.getD j 0 < 2039) ∧ ∀ j, 0 ≤ xs.getD j 0 ∧ xs.getD j 0 ≤ 1018
theorem hpw_bd {es xs : List Int} (h : powsP es xs) : ∀ i, 0 ≤ hpw es xs i ∧ hpw es xs i < 2039
 | 0 => by simp [hpw]
 | i + 1 => by
  have h1 := hpw_bd h i
  have h2 := pow_bd (h.2.1 i) (n := xs.getD i 0) (by have := h.2.2 i; omega)
  exact LA.tmod_lt (Int.mul_nonneg h1.1 h2.1) (by decide)
theorem grp_at {es : List Int} (h : ∀ g ∈ es, isGrp g = true) (j : Nat) : 0 ≤ es.getD j 0 ∧ es.getD j 0 < 2039 := by
 by_cases hj : j < es.length
 ·have := isGrp_t (h _ (getD_mem (z := 0) hj)); omega
 ·rw [List.getD_eq_getElem?_getD, List.getElem?_eq_none (by omega)]; decide
theorem hpw_grp {es xs : List Int} (h : ∀ g ∈ es, isGrp g = true) (hx : ∀ j, 0 ≤ xs.getD j 0 ∧ xs.getD j 0 ≤ 1018) : ∀ i, i ≤ es.length → isGrp (hpw es xs i) = true
 | 0, _ => isGrp_one
 | i + 1, hi => isGrp_mul (hpw_grp h hx i (by omega)) (isGrp_pow (h _ (getD_mem hi)) (by have := hx i; omega))
def validG (x0 : T26) : Bool := (if (inR x0.1 0 1000000000000) = true then (if (inR ((List.length x0.2 : Nat) : Int) 1 8) = true then (if (validM x0.2) = true then (inR (colsOf x0.2) 1 16) else false) else false) else false)
abbrev Q_spec_IsValidGeneration := (fun (x0 : T26) => Sh.fit s26 x0)
def S_spec_IsValidGeneration : Sum := { fid := 19, dom := [s26], cod := [(.bool 4)], dp := true, fz := false, pre := fun x => Q_spec_IsValidGeneration x.1, g := fun x => ((validG x.1), ()) }
def S_spec_IsValidGeneration_tab : List (Nat × Sum) := [(36, S_spec_l1In), (37, S_spec_IsValidMatrix), (34, S_spec_ColumnsOf)]
theorem S_spec_IsValidGeneration_ok : FnOK Tryz.prog 19 S_spec_IsValidGeneration := by
 refine at_enter 23 (fun x => ⟨[(0, aG [cI x.1.1, .ro s27 x.1.2])], []⟩) Tryz.func19 rfl (by kernel_rfl) (fun x => rfl) ?_
 rintro w0 Z0 ⟨x0, u⟩ a w
 revert x0
 intro (x0 : T26) hpre hlens h
 replace hpre : Q_spec_IsValidGeneration x0 := hpre
 have hT : TabOK Tryz.prog w0 [] S_spec_IsValidGeneration_tab := (.cons S_spec_l1In_ok (.cons S_spec_IsValidMatrix_ok (.cons S_spec_ColumnsOf_ok .nil)))
 have hf0 : Sh.fit s26 x0 := hpre
 have hn0_1 : List.length x0.2 ≤ 1073741824 := hf0.2.1
 refine wp_seq ?_
 refine at_regq [{ ids := [1] }] { ts := [1, 2], os := [1] } [] gamOK hT h (by kernel_rfl) trivial fun a w h => then_normal (wp_seq ?_)
 rcases Bool.eq_false_or_eq_true ((inR x0.1 0 1000000000000)) with h1 | h1
 ·have hvh1 := inR_t h1
  rcases Bool.eq_false_or_eq_true ((inR ((List.length x0.2 : Nat) : Int) 1 8)) with h2 | h2
  ·have hvh2 := inR_t h2
   rcases Bool.eq_false_or_eq_true ((validM x0.2)) with h3 | h3
   ·have hvh3 := validM_t h3
    refine at_regq [{}, {}, { hint := some (aB true) }, {}, {}, {}, {}, { hint := some (aB true) }, {}, {}, {}, {}, { hint := some (aB true) }] { ts := [2], os := [] } [True, (AV.p (.c (.v (.bool ((inR x0.1 0 1000000000000))))) = AV.p (.c (.v (.bool true)))), True, (AV.p (.c (.v (.bool ((inR ((List.length x0.2 : Nat) : Int) 1 8))))) = AV.p (.c (.v (.bool true)))), Q_spec_IsValidMatrix x0.2, (AV.p (.c (.v (.bool ((validM x0.2))))) = AV.p (.c (.v (.bool true)))), Q_spec_ColumnsOf x0.2, True] gamOK hT h (by kernel_rfl) ⟨trivial, hint_bool (h1), trivial, hint_bool (h2), (by exact hf0.2), hint_bool (h3), (by exact hf0.2), trivial, trivial⟩ fun a w h => then_normal (wp_ret ?_)
    exact at_return ((inR (colsOf x0.2) 1 16), ()) [] h (by kernel_rfl) trivial (congrArg (fun z => (z, ())) (show ((inR (colsOf x0.2) 1 16)) = validG x0 from by first | rfl | (unfold validG; rw [if_pos h1, if_pos h2, if_pos h3])))
   ·refine at_regq [{}, {}, { hint := some (aB true) }, {}, {}, {}, {}, { hint := some (aB true) }, {}, {}, {}, {}, { hint := some (aB false) }] { ts := [2], os := [] } [True, (AV.p (.c (.v (.bool ((inR x0.1 0 1000000000000))))) = AV.p (.c (.v (.bool true)))), True, (AV.p (.c (.v (.bool ((inR ((List.length x0.2 : Nat) : Int) 1 8))))) = AV.p (.c (.v (.bool true)))), Q_spec_IsValidMatrix x0.2, (AV.p (.c (.v (.bool ((validM x0.2))))) = AV.p (.c (.v (.bool false))))] gamOK hT h (by kernel_rfl) ⟨trivial, hint_bool (h1), trivial, hint_bool (h2), (by exact hf0.2), hint_bool (h3), trivial⟩ fun a w h => then_normal (wp_ret ?_)
    exact at_return (false, ()) [] h (by kernel_rfl) trivial (congrArg (fun z => (z, ())) (show (false) = validG x0 from by first | rfl | (unfold validG; rw [if_pos h1, if_pos h2, if_neg (neT h3)])))
  ·have hvh2 := inR_f h2
   refine at_regq [{}, {}, { hint := some (aB true) }, {}, {}, {}, {}, { hint := some (aB false) }] { ts := [2], os := [] } [True, (AV.p (.c (.v (.bool ((inR x0.1 0 1000000000000))))) = AV.p (.c (.v (.bool true)))), True, (AV.p (.c (.v (.bool ((inR ((List.length x0.2 : Nat) : Int) 1 8))))) = AV.p (.c (.v (.bool false))))] gamOK hT h (by kernel_rfl) ⟨trivial, hint_bool (h1), trivial, hint_bool (h2), trivial⟩ fun a w h => then_normal (wp_ret ?_)
   exact at_return (false, ()) [] h (by kernel_rfl) trivial (congrArg (fun z => (z, ())) (show (false) = validG x0 from by first | rfl | (unfold validG; rw [if_pos h1, if_neg (neT h2)])))
 ·have hvh1 := inR_f h1
  refine at_regq [{}, {}, { hint := some (aB false) }] { ts := [2], os := [] } [True, (AV.p (.c (.v (.bool ((inR x0.1 0 1000000000000))))) = AV.p (.c (.v (.bool false))))] gamOK hT h (by kernel_rfl) ⟨trivial, hint_bool (h1), trivial⟩ fun a w h => then_normal (wp_ret ?_)
  exact at_return (false, ()) [] h (by kernel_rfl) trivial (congrArg (fun z => (z, ())) (show (false) = validG x0 from by first | rfl | (unfold validG; rw [if_neg (neT h1)])))
theorem validG_t {g : T26} (h : validG g = true) : (0 ≤ g.1 ∧ g.1 ≤ 1000000000000) ∧ (1 ≤ List.length g.2 ∧ List.length g.2 ≤ 8) ∧ validM g.2 = true ∧ (1 ≤ colsOf g.2 ∧ colsOf g.2 ≤ 16) := by
 unfold validG at h
 split at h
 ·split at h
  ·split at h
   ·rename_i h1 h2 h3
    have a1 := inR_t h1; have a2 := inR_t h2; have a3 := inR_t h
    exact ⟨a1, by omega, h3, a3⟩
   ·cases h
  ·cases h
 ·cases h
theorem colsOf_at {m : List (List Int)} (h : 1 ≤ List.length m) : colsOf m = ((List.length (m.getD 0 []) : Nat) : Int) := by unfold colsOf; rw [if_neg (by omega)]

def S_impl_IsGroupElement : Sum := { fid := 45, dom := [(.int 3)], cod := [(.bool 4)], dp := true, fz := false, pre := fun x => True, g := fun x => ((isGrp x.1), ()) }
def S_impl_IsGroupElement_tab : List (Nat × Sum) := [(41, S_impl_InRange), (65, S_impl_powMod)]
theorem S_impl_IsGroupElement_ok : FnOK Tryz.prog 45 S_impl_IsGroupElement := by
 refine at_enter 10 (fun x => ⟨[(0, aI x.1)], []⟩) Tryz.func45 rfl (by kernel_rfl) (fun x => rfl) ?_
 rintro w0 Z0 ⟨x0, u⟩ a w
 revert x0
 intro (x0 : Int) hpre hlens h
 have hT : TabOK Tryz.prog w0 [] S_impl_IsGroupElement_tab := (.cons S_impl_InRange_ok (.cons S_impl_powMod_ok .nil))
 refine wp_seq ?_
 refine at_regq [] { ts := [0, 2], os := [] } [] gamOK hT h (by kernel_rfl) trivial fun a w h => then_normal (wp_seq ?_)
 rcases Bool.eq_false_or_eq_true ((inR x0 1 2038)) with h1 | h1
 ·have hvh1 := inR_t h1
  refine at_regq [{}, { hint := some (aB true) }] { ts := [2], os := [] } [True, (AV.p (.c (.v (.bool ((inR x0 1 2038))))) = AV.p (.c (.v (.bool true)))), powP x0 1019 2039] gamOK hT h (by kernel_rfl) ⟨trivial, hint_bool (h1), (by (show _ ∧ _; refine ⟨⟨?_, ?_⟩, ⟨?_, ?_⟩, ?_, ?_⟩ <;> omega)), trivial⟩ fun a w h => then_normal (wp_ret ?_)
  exact at_return (decide ((powD x0 1019 2039) = 1), ()) [] h (by kernel_rfl) trivial (congrArg (fun z => (z, ())) (show (decide ((powD x0 1019 2039) = 1)) = isGrp x0 from by (unfold isGrp; simp_all)))
 ·have hvh1 := inR_f h1
  refine at_regq [{}, { hint := some (aB false) }] { ts := [2], os := [] } [True, (AV.p (.c (.v (.bool ((inR x0 1 2038))))) = AV.p (.c (.v (.bool false))))] gamOK hT h (by kernel_rfl) ⟨trivial, hint_bool (h1), trivial⟩ fun a w h => then_normal (wp_ret ?_)
  exact at_return (false, ()) [] h (by kernel_rfl) trivial (congrArg (fun z => (z, ())) (show (false) = isGrp x0 from by (unfold isGrp; simp_all)))

def S_spec_IsGroupElement : Sum := { fid := 73, dom := [(.int 3)], cod := [(.bool 4)], dp := true, fz := false, pre := fun x => True, g := fun x => ((isGrp x.1), ()) }
def S_spec_IsGroupElement_tab : List (Nat × Sum) := [(36, S_spec_l1In), (74, S_spec_l4Pow)]
theorem S_spec_IsGroupElement_ok : FnOK Tryz.prog 73 S_spec_IsGroupElement := by
 refine at_enter 10 (fun x => ⟨[(0, aI x.1)], []⟩) Tryz.func73 rfl (by kernel_rfl) (fun x => rfl) ?_
 rintro w0 Z0 ⟨x0, u⟩ a w
 revert x0
 intro (x0 : Int) hpre hlens h
 have hT : TabOK Tryz.prog w0 [] S_spec_IsGroupElement_tab := (.cons S_spec_l1In_ok (.cons S_spec_l4Pow_ok .nil))
 refine wp_seq ?_
 refine at_regq [] { ts := [0, 2], os := [] } [] gamOK hT h (by kernel_rfl) trivial fun a w h => then_normal (wp_seq ?_)
 rcases Bool.eq_false_or_eq_true ((inR x0 1 2038)) with h1 | h1
 ·have hvh1 := inR_t h1
  refine at_regq [{}, { hint := some (aB true) }] { ts := [2], os := [] } [True, (AV.p (.c (.v (.bool ((inR x0 1 2038))))) = AV.p (.c (.v (.bool true)))), powP x0 1019 2039] gamOK hT h (by kernel_rfl) ⟨trivial, hint_bool (h1), (by (show _ ∧ _; refine ⟨⟨?_, ?_⟩, ⟨?_, ?_⟩, ?_, ?_⟩ <;> omega)), trivial⟩ fun a w h => then_normal (wp_ret ?_)
  exact at_return (decide ((powD x0 1019 2039) = 1), ()) [] h (by kernel_rfl) trivial (congrArg (fun z => (z, ())) (show (decide ((powD x0 1019 2039) = 1)) = isGrp x0 from by (unfold isGrp; simp_all)))
 ·have hvh1 := inR_f h1
  refine at_regq [{}, { hint := some (aB false) }] { ts := [2], os := [] } [True, (AV.p (.c (.v (.bool ((inR x0 1 2038))))) = AV.p (.c (.v (.bool false))))] gamOK hT h (by kernel_rfl) ⟨trivial, hint_bool (h1), trivial⟩ fun a w h => then_normal (wp_ret ?_)
  exact at_return (false, ()) [] h (by kernel_rfl) trivial (congrArg (fun z => (z, ())) (show (false) = isGrp x0 from by (unfold isGrp; simp_all)))

def powG (x0 : Int) (x1 : Int) : Int := (if (isGrp x0) = true then (if (isEl x1) = true then (powD x0 x1 2039) else 0) else 0)
def S_spec_PowGroup : Sum := { fid := 55, dom := [(.int 3), (.int 3)], cod := [(.int 3)], dp := true, fz := false, pre := fun x => True, g := fun x => ((powG x.1 x.2.1), ()) }
def S_spec_PowGroup_tab : List (Nat × Sum) := [(73, S_spec_IsGroupElement), (38, S_spec_IsElement), (74, S_spec_l4Pow)]
theorem S_spec_PowGroup_ok : FnOK Tryz.prog 55 S_spec_PowGroup := by
 refine at_enter 16 (fun x => ⟨[(0, aI x.1), (1, aI x.2.1)], []⟩) Tryz.func55 rfl (by kernel_rfl) (fun x => rfl) ?_
 rintro w0 Z0 ⟨x0, x1, u⟩ a w
 revert x0 x1
 intro (x0 : Int) (x1 : Int) hpre hlens h
 have hT : TabOK Tryz.prog w0 [] S_spec_PowGroup_tab := (.cons S_spec_IsGroupElement_ok (.cons S_spec_IsElement_ok (.cons S_spec_l4Pow_ok .nil)))
 refine wp_seq ?_
 refine at_regq [] { ts := [0, 1, 4], os := [] } [] gamOK hT h (by kernel_rfl) trivial fun a w h => then_normal (wp_seq (wp_seq ?_))
 rcases Bool.eq_false_or_eq_true (!(isGrp x0)) with h1 | h1
 ·have hzh1 : (isGrp x0) = false := notT h1
  refine at_regq [{}, {}, { hint := some (aB true) }] { ts := [0, 1, 4, 12], os := [] } [True, (AV.p (.c (.v (.bool (!(isGrp x0))))) = AV.p (.c (.v (.bool true))))] gamOK hT h (by kernel_rfl) ⟨trivial, hint_bool (h1), trivial⟩ fun a w h => then_normal ?_
  refine at_test true h (by kernel_rfl) (fun hh => ?_) (fun hh => nomatch hh)
  refine wp_seq ?_
  refine at_regq [] { ts := [0, 1, 4], os := [] } [] gamOK hT h (by kernel_rfl) trivial fun a w h => then_normal (wp_ret (then_ret ?_))
  exact at_return (0, ()) [] h (by kernel_rfl) trivial (congrArg (fun z => (z, ())) (show (0) = powG x0 x1 from by first | rfl | (unfold powG; rw [if_neg (neT (notT h1))])))
 ·have hzh1 : (isGrp x0) = true := notF h1
  have hvh1 := isGrp_t (notF h1)
  refine at_regq [{}, {}, { hint := some (aB false) }] { ts := [0, 1, 4, 12], os := [] } [True, (AV.p (.c (.v (.bool (!(isGrp x0))))) = AV.p (.c (.v (.bool false)))), True] gamOK hT h (by kernel_rfl) ⟨trivial, hint_bool (h1), trivial, trivial⟩ fun a w h => then_normal ?_
  refine at_test (!(isEl x1)) h (by kernel_rfl) (fun h2 => ?_) (fun h2 => ?_)
  ·replace h2 : (isEl x1) = false := notT h2
   refine wp_seq ?_
   refine at_regq [] { ts := [0, 1, 4], os := [] } [] gamOK hT h (by kernel_rfl) trivial fun a w h => then_normal (wp_ret (then_ret ?_))
   exact at_return (0, ()) [] h (by kernel_rfl) trivial (congrArg (fun z => (z, ())) (show (0) = powG x0 x1 from by first | rfl | (unfold powG; rw [if_pos (notF h1), if_neg (neT h2)])))
  ·replace h2 : (isEl x1) = true := notF h2
   have hvh2 := isEl_t h2
   refine wp_skip (then_normal (wp_seq ?_))
   refine at_regq [] { ts := [4], os := [] } [powP x0 x1 2039] gamOK hT h (by kernel_rfl) ⟨(by (show _ ∧ _; refine ⟨⟨?_, ?_⟩, ⟨?_, ?_⟩, ?_, ?_⟩ <;> omega)), trivial⟩ fun a w h => then_normal (wp_ret ?_)
   exact at_return ((powD x0 x1 2039), ()) [] h (by kernel_rfl) trivial (congrArg (fun z => (z, ())) (show ((powD x0 x1 2039)) = powG x0 x1 from by first | rfl | (unfold powG; rw [if_pos (notF h1), if_pos h2])))

def mulG (x0 : Int) (x1 : Int) : Int := (if (isGrp x0) = true then (if (isGrp x1) = true then (Int.tmod (x0 * x1) 2039) else 0) else 0)
def S_spec_MulGroup : Sum := { fid := 94, dom := [(.int 3), (.int 3)], cod := [(.int 3)], dp := true, fz := false, pre := fun x => True, g := fun x => ((mulG x.1 x.2.1), ()) }
def S_spec_MulGroup_tab : List (Nat × Sum) := [(73, S_spec_IsGroupElement)]
theorem S_spec_MulGroup_ok : FnOK Tryz.prog 94 S_spec_MulGroup := by
 refine at_enter 17 (fun x => ⟨[(0, aI x.1), (1, aI x.2.1)], []⟩) Tryz.func94 rfl (by kernel_rfl) (fun x => rfl) ?_
 rintro w0 Z0 ⟨x0, x1, u⟩ a w
 revert x0 x1
 intro (x0 : Int) (x1 : Int) hpre hlens h
 have hT : TabOK Tryz.prog w0 [] S_spec_MulGroup_tab := (.cons S_spec_IsGroupElement_ok .nil)
 refine wp_seq ?_
 refine at_regq [] { ts := [0, 1, 4], os := [] } [] gamOK hT h (by kernel_rfl) trivial fun a w h => then_normal (wp_seq (wp_seq ?_))
 rcases Bool.eq_false_or_eq_true (!(isGrp x0)) with h1 | h1
 ·have hzh1 : (isGrp x0) = false := notT h1
  refine at_regq [{}, {}, { hint := some (aB true) }] { ts := [0, 1, 4, 12], os := [] } [True, (AV.p (.c (.v (.bool (!(isGrp x0))))) = AV.p (.c (.v (.bool true))))] gamOK hT h (by kernel_rfl) ⟨trivial, hint_bool (h1), trivial⟩ fun a w h => then_normal ?_
  refine at_test true h (by kernel_rfl) (fun hh => ?_) (fun hh => nomatch hh)
  refine wp_seq ?_
  refine at_regq [] { ts := [0, 1, 4], os := [] } [] gamOK hT h (by kernel_rfl) trivial fun a w h => then_normal (wp_ret (then_ret ?_))
  exact at_return (0, ()) [] h (by kernel_rfl) trivial (congrArg (fun z => (z, ())) (show (0) = mulG x0 x1 from by first | rfl | (unfold mulG; rw [if_neg (neT (notT h1))])))
 ·have hzh1 : (isGrp x0) = true := notF h1
  have hvh1 := isGrp_t (notF h1)
  refine at_regq [{}, {}, { hint := some (aB false) }] { ts := [0, 1, 4, 12], os := [] } [True, (AV.p (.c (.v (.bool (!(isGrp x0))))) = AV.p (.c (.v (.bool false)))), True] gamOK hT h (by kernel_rfl) ⟨trivial, hint_bool (h1), trivial, trivial⟩ fun a w h => then_normal ?_
  refine at_test (!(isGrp x1)) h (by kernel_rfl) (fun h2 => ?_) (fun h2 => ?_)
  ·replace h2 : (isGrp x1) = false := notT h2
   refine wp_seq ?_
   refine at_regq [] { ts := [0, 1, 4], os := [] } [] gamOK hT h (by kernel_rfl) trivial fun a w h => then_normal (wp_ret (then_ret ?_))
   exact at_return (0, ()) [] h (by kernel_rfl) trivial (congrArg (fun z => (z, ())) (show (0) = mulG x0 x1 from by first | rfl | (unfold mulG; rw [if_pos (notF h1), if_neg (neT h2)])))
  ·replace h2 : (isGrp x1) = true := notF h2
   have hvh2 := isGrp_t h2
   refine wp_skip (then_normal (wp_seq ?_))
   refine at_regq [{}, {}, { nw := true }] { ts := [4], os := [] } [I64 (x0 * x1), (2039 : Int) ≠ 0] gamOK hT h (by kernel_rfl) ⟨⟨by (have hA0 := mul_f x0 x1; first | omega | (simp only [lsA]; omega) | (simp <;> omega)), by (have hA0 := mul_f x0 x1; first | omega | (simp only [lsA]; omega) | (simp <;> omega))⟩, (by first | omega | (simp only [lsA]; omega) | (simp <;> omega)), trivial⟩ fun a w h => then_normal (wp_ret ?_)
   exact at_return ((Int.tmod (x0 * x1) 2039), ()) [] h (by kernel_rfl) trivial (congrArg (fun z => (z, ())) (show ((Int.tmod (x0 * x1) 2039)) = mulG x0 x1 from by first | rfl | (unfold mulG; rw [if_pos (notF h1), if_pos h2])))
theorem powG_at {g n : Int} (hg : isGrp g = true) (hn : 0 ≤ n ∧ n ≤ 1018) : powG g n = powD g n 2039 := by unfold powG; rw [if_pos hg, if_pos (show isEl n = true from inR_true hn)]
theorem mulG_at {a b : Int} (ha : isGrp a = true) (hb : isGrp b = true) : mulG a b = (a * b).tmod 2039 := by unfold mulG; rw [if_pos ha, if_pos hb]
theorem hpw_step {es xs : List Int} {i : Nat} (h : isGrp (hpw es xs i) = true) (he : isGrp (es.getD i 0) = true) (hx : 0 ≤ xs.getD i 0 ∧ xs.getD i 0 ≤ 1018) : mulG (hpw es xs i) (powG (es.getD i 0) (xs.getD i 0)) = hpw es xs (i + 1) := by
 rw [powG_at he hx, mulG_at h (isGrp_pow he (by omega))]; rfl

abbrev Q_impl_powers := (fun (x0 : (List Int)) (x1 : (List Int)) => Sh.fit s27 x0 ∧ Sh.fit s27 x1 ∧ powsP x0 x1)
def S_impl_powers : Sum := { fid := 81, dom := [s27, s27], cod := [(.int 3)], dp := true, fz := false, pre := fun x => Q_impl_powers x.1 x.2.1, g := fun x => ((powsL x.1 x.2.1), ()) }
def S_impl_powers_tab : List (Nat × Sum) := [(65, S_impl_powMod)]
theorem S_impl_powers_ok : FnOK Tryz.prog 81 S_impl_powers := by
 refine at_enter 26 (fun x => ⟨[(0, aF (.int 3) x.1), (1, aF (.int 3) x.2.1)], []⟩) Tryz.func81 rfl (by kernel_rfl) (fun x => rfl) ?_
 rintro w0 Z0 ⟨x0, x1, u⟩ a w
 revert x0 x1
 intro (x0 : (List Int)) (x1 : (List Int)) hpre hlens h
 replace hpre : Q_impl_powers x0 x1 := hpre
 have hT : TabOK Tryz.prog w0 [] S_impl_powers_tab := (.cons S_impl_powMod_ok .nil)
 obtain ⟨hf0, hf1, hpx⟩ := hpre
 have hn0_1 : List.length x0 ≤ 1073741824 := hf0.1
 have hn1_2 : List.length x1 ≤ 1073741824 := hf1.1
 have hlp := hpx.1
 refine wp_seq ?_
 refine at_regq [] { ts := [0, 1, 4], os := [] } [] gamOK hT h (by kernel_rfl) trivial fun a w h => then_normal (wp_seq ?_)
 refine at_regq [] { ts := [0, 1, 4, 5], os := [] } [] gamOK hT h (by kernel_rfl) trivial fun a w h => then_normal (wp_seq (wp_seq ?_))
 refine at_regq [] { ts := [1, 4, 5, 8, 9, 10], os := [] } [] gamOK hT h (by kernel_rfl) trivial fun a w h => then_normal (wp_block ?_)
 replace h := at_out (σ' := ⟨[(1, aF (.int 3) x1), (4, aI 0), (5, aI 1), (8, aF (.int 3) x0), (9, aI ((List.length x0 : Nat) : Int)), (10, aI 0)], []⟩) { ts := [1, 4, 5, 8, 9, 10], os := [] } h (by kernel_rfl)
 refine at_loop (fun i : Nat => (⟨[(1, aF (.int 3) x1), (4, aI 0), (5, aI (hpw x0 x1 i)), (8, aF (.int 3) x0), (9, aI ((List.length x0 : Nat) : Int)), (10, aI ((i : Nat) : Int))], []⟩ : St)) (fun i => i ≤ List.length x0) (fun i => List.length x0 - i) (0) h (st_congr2 (fun (d0 : Int) (d1 : Int) => (⟨[(1, aF (.int 3) x1), (4, aI 0), (5, aI d0), (8, aF (.int 3) x0), (9, aI ((List.length x0 : Nat) : Int)), (10, aI d1)], []⟩ : St)) (show (1 : Int) = (hpw x0 x1 (0)) from by first | with_reducible rfl | (rfl) | rfl) (show (0 : Int) = (((0) : Nat) : Int) from by first | with_reducible rfl | (rfl) | rfl)) (by omega) ?_
 intro i a w hok0 h
 have hbd := hpw_bd hpx i
 refine wp_seq ?_
 refine at_regq [] { ts := [1, 4, 5, 8, 9, 10, 11], os := [] } [] gamOK hT h (by kernel_rfl) trivial fun a w h => then_normal (wp_seq ?_)
 refine at_test (decide (((i : Nat) : Int) < ((List.length x0 : Nat) : Int))) h (by kernel_rfl) (fun h1 => ?_) (fun h1 => ?_)
 ·replace h1 : ((i : Nat) : Int) < ((List.length x0 : Nat) : Int) := of_decide_eq_true h1
  have hex := hpx.2.1 i
  have hxx := hpx.2.2 i
  have hpb := pow_bd hex (n := x1.getD i 0) (by omega)
  have hmb := mul_f (hpw x0 x1 i) (powD (x0.getD i 0) (x1.getD i 0) 2039)
  refine wp_skip (then_normal (wp_seq (wp_block (wp_seq ?_))))
  refine at_regq [] { ts := [1, 4, 5, 6, 7, 8, 9, 10], os := [] } [(0 : Int) ≤ ((i : Nat) : Int) ∧ ((i : Nat) : Int) < ((List.length x0 : Nat) : Int)] gamOK hT h (by kernel_rfl) ⟨(by refine ⟨?_, ?_⟩ <;> (first | omega | (simp only [lsA]; omega) | (simp <;> omega))), trivial⟩ fun a w h => then_normal ?_
  refine at_regq [{}, {}, {}, {}, {}, {}, {}, { nw := true }] { ts := [1, 4, 5, 8, 9, 10], os := [] } [(0 : Int) ≤ ((i : Nat) : Int) ∧ ((i : Nat) : Int) < ((List.length x1 : Nat) : Int), powP (x0.getD i 0) (x1.getD i 0) 2039, I64 ((hpw x0 x1 i) * (powD (x0.getD i 0) (x1.getD i 0) 2039)), (2039 : Int) ≠ 0] gamOK hT h (by kernel_rfl) ⟨(by refine ⟨?_, ?_⟩ <;> (first | omega | (simp only [lsA]; omega) | (simp <;> omega))), (by (show _ ∧ _; refine ⟨⟨?_, ?_⟩, ⟨?_, ?_⟩, ?_, ?_⟩ <;> omega)), ⟨by (have hA0 := mul_f (hpw x0 x1 i) (powD (x0.getD i 0) (x1.getD i 0) 2039); first | omega | (simp only [lsA]; omega) | (simp <;> omega)), by (have hA0 := mul_f (hpw x0 x1 i) (powD (x0.getD i 0) (x1.getD i 0) 2039); first | omega | (simp only [lsA]; omega) | (simp <;> omega))⟩, (by first | omega | (simp only [lsA]; omega) | (simp <;> omega)), trivial⟩ fun a w h => in_normal (then_normal ?_)
  refine at_regq [{ nw := true }] { ts := [1, 4, 5, 8, 9, 10], os := [] } [I64 (((i : Nat) : Int) + 1)] gamOK hT h (by kernel_rfl) ⟨⟨by first | omega | (simp only [lsA]; omega) | (simp <;> omega), by first | omega | (simp only [lsA]; omega) | (simp <;> omega)⟩, trivial⟩ fun a w h => ?_
  replace h := at_out (σ' := ⟨[(1, aF (.int 3) x1), (4, aI 0), (5, aI (Int.tmod ((hpw x0 x1 i) * (powD (x0.getD i 0) (x1.getD i 0) 2039)) 2039)), (8, aF (.int 3) x0), (9, aI ((List.length x0 : Nat) : Int)), (10, aI (((i : Nat) : Int) + 1))], []⟩) { ts := [1, 4, 5, 8, 9, 10], os := [] } h (by kernel_rfl)
  exact ⟨i + 1, at_eq h (st_congr2 (fun (d0 : Int) (d1 : Int) => (⟨[(1, aF (.int 3) x1), (4, aI 0), (5, aI d0), (8, aF (.int 3) x0), (9, aI ((List.length x0 : Nat) : Int)), (10, aI d1)], []⟩ : St)) (show ((Int.tmod ((hpw x0 x1 i) * (powD (x0.getD i 0) (x1.getD i 0) 2039)) 2039) : Int) = (hpw x0 x1 (i + 1)) from by first | with_reducible rfl | (rfl) | rfl) (show (((i : Nat) : Int) + 1 : Int) = (((i + 1) : Nat) : Int) from by first | with_reducible rfl | (omega) | rfl)), (by omega), (by omega)⟩
 ·replace h1 : ¬ (((i : Nat) : Int) < ((List.length x0 : Nat) : Int)) := of_decide_eq_false h1
  refine wp_exit (then_exit (then_exit (in_hit (then_normal (wp_seq ?_)))))
  refine at_regq [] { ts := [4], os := [] } [] gamOK hT h (by kernel_rfl) trivial fun a w h => then_normal (wp_ret ?_)
  exact at_return ((hpw x0 x1 i), ()) [] h (by kernel_rfl) trivial (congrArg (fun z => (z, ())) (show ((hpw x0 x1 i)) = powsL x0 x1 from by (show _ = hpw x0 x1 (List.length x0); rw [show List.length x0 = i by omega])))

def validK (x0 : (List Int)) : Bool := (if (List.all x0 (fun g => !decide (g = 1) && isGrp g)) = true then (inR ((List.length x0 : Nat) : Int) 1 16) else false)
abbrev Q_impl_IsValidHashKey := (fun (x0 : (List Int)) => Sh.fit s29 x0)
def S_impl_IsValidHashKey : Sum := { fid := 46, dom := [s29], cod := [(.bool 4)], dp := true, fz := false, pre := fun x => Q_impl_IsValidHashKey x.1, g := fun x => ((validK x.1), ()) }
def S_impl_IsValidHashKey_tab : List (Nat × Sum) := [(45, S_impl_IsGroupElement), (41, S_impl_InRange)]
theorem S_impl_IsValidHashKey_ok : FnOK Tryz.prog 46 S_impl_IsValidHashKey := by
 refine at_enter 24 (fun x => ⟨[(0, aG [.ro (.int 3) x.1])], []⟩) Tryz.func46 rfl (by kernel_rfl) (fun x => rfl) ?_
 rintro w0 Z0 ⟨x0, u⟩ a w
 revert x0
 intro (x0 : (List Int)) hpre hlens h
 replace hpre : Q_impl_IsValidHashKey x0 := hpre
 have hT : TabOK Tryz.prog w0 [] S_impl_IsValidHashKey_tab := (.cons S_impl_IsGroupElement_ok (.cons S_impl_InRange_ok .nil))
 have hf0 : Sh.fit s29 x0 := hpre
 have hn0_1 : List.length x0 ≤ 1073741824 := hf0.1
 refine wp_seq ?_
 refine at_regq [{ ids := [1] }] { ts := [1, 2], os := [1] } [] gamOK hT h (by kernel_rfl) trivial fun a w h => then_normal (wp_seq (wp_seq ?_))
 refine at_regq [] { ts := [1, 2, 6, 7, 8], os := [1] } [] gamOK hT h (by kernel_rfl) trivial fun a w h => then_normal (wp_block ?_)
 replace h := at_out (σ' := ⟨[(1, aP 1 0), (2, aB false), (6, aF (.int 3) x0), (7, aI ((List.length x0 : Nat) : Int)), (8, aI 0)], [(1, oX 29 [.ro (.int 3) x0])]⟩) { ts := [1, 2, 6, 7, 8], os := [1] } h (by kernel_rfl)
 refine at_loop (fun i : Nat => (⟨[(1, aP 1 0), (2, aB false), (6, aF (.int 3) x0), (7, aI ((List.length x0 : Nat) : Int)), (8, aI ((i : Nat) : Int))], [(1, oX 29 [.ro (.int 3) x0])]⟩ : St)) (fun i => (i ≤ List.length x0 ∧ allTo1 (fun g => !decide (g = 1) && isGrp g) x0 0 i)) (fun i => List.length x0 - i) (0) h (st_congr1 (fun (d0 : Int) => (⟨[(1, aP 1 0), (2, aB false), (6, aF (.int 3) x0), (7, aI ((List.length x0 : Nat) : Int)), (8, aI d0)], [(1, oX 29 [.ro (.int 3) x0])]⟩ : St)) (show (0 : Int) = (((0) : Nat) : Int) from by first | with_reducible rfl | (rfl) | rfl)) (by exact ⟨Nat.zero_le _, allTo1_zero⟩) ?_
 intro i a w hok0 h
 refine wp_seq ?_
 refine at_regq [] { ts := [1, 2, 6, 7, 8, 9], os := [1] } [] gamOK hT h (by kernel_rfl) trivial fun a w h => then_normal (wp_seq ?_)
 refine at_test (decide (((i : Nat) : Int) < ((List.length x0 : Nat) : Int))) h (by kernel_rfl) (fun h1 => ?_) (fun h1 => ?_)
 ·replace h1 : ((i : Nat) : Int) < ((List.length x0 : Nat) : Int) := of_decide_eq_true h1
  refine wp_skip (then_normal (wp_seq (wp_block (wp_seq ?_))))
  refine at_regq [] { ts := [1, 2, 4, 6, 7, 8], os := [1] } [(0 : Int) ≤ ((i : Nat) : Int) ∧ ((i : Nat) : Int) < ((List.length x0 : Nat) : Int)] gamOK hT h (by kernel_rfl) ⟨(by refine ⟨?_, ?_⟩ <;> (first | omega | (simp only [lsA]; omega) | (simp <;> omega))), trivial⟩ fun a w h => then_normal (wp_seq ?_)
  by_cases h2 : (x0.getD i 0) = 1
  ·refine at_regq [{}, { hint := some (aB true) }] { ts := [1, 2, 6, 7, 8, 15, 16, 17, 18], os := [1] } [(AV.p (.c (.v (.bool (decide ((x0.getD i 0) = 1))))) = AV.p (.c (.v (.bool true))))] gamOK hT h (by kernel_rfl) ⟨hint_bool (decide_eq_true h2), trivial⟩ fun a w h => then_normal ?_
   refine at_test true h (by kernel_rfl) (fun hh => ?_) (fun hh => nomatch hh)
   refine wp_seq ?_
   refine at_regq [] { ts := [1, 2, 6, 7, 8, 15, 16, 17], os := [1] } [] gamOK hT h (by kernel_rfl) trivial fun a w h => then_normal (wp_ret (in_ret (then_ret ?_)))
   have hs3 : (List.all x0 (fun g => !decide (g = 1) && isGrp g)) = false := by exact all_at (z := 0) (i := i) (by omega) (by first | assumption | (simp_all; done))
   refine then_ret (in_ret (then_ret ?_))
   exact at_return (false, ()) [] h (by kernel_rfl) trivial (congrArg (fun z => (z, ())) (show (false) = validK x0 from by first | rfl | (unfold validK; rw [if_neg (neT hs3)])))
  ·refine at_regq [{}, { hint := some (aB false) }] { ts := [1, 2, 6, 7, 8, 15, 16, 17, 18], os := [1] } [(AV.p (.c (.v (.bool (decide ((x0.getD i 0) = 1))))) = AV.p (.c (.v (.bool false)))), True] gamOK hT h (by kernel_rfl) ⟨hint_bool (decide_eq_false h2), trivial, trivial⟩ fun a w h => then_normal ?_
   refine at_test (!(isGrp (x0.getD i 0))) h (by kernel_rfl) (fun h4 => ?_) (fun h4 => ?_)
   ·replace h4 : (isGrp (x0.getD i 0)) = false := notT h4
    refine wp_seq ?_
    refine at_regq [] { ts := [1, 2, 6, 7, 8, 15, 16, 17], os := [1] } [] gamOK hT h (by kernel_rfl) trivial fun a w h => then_normal (wp_ret (in_ret (then_ret ?_)))
    have hs5 : (List.all x0 (fun g => !decide (g = 1) && isGrp g)) = false := by exact all_at (z := 0) (i := i) (by omega) (by first | assumption | (simp_all; done))
    refine then_ret (in_ret (then_ret ?_))
    exact at_return (false, ()) [] h (by kernel_rfl) trivial (congrArg (fun z => (z, ())) (show (false) = validK x0 from by first | rfl | (unfold validK; rw [if_neg (neT hs5)])))
   ·replace h4 : (isGrp (x0.getD i 0)) = true := notF h4
    have hvh4 := isGrp_t h4
    refine wp_skip (in_normal (then_normal ?_))
    refine at_regq [{ nw := true }] { ts := [1, 2, 6, 7, 8, 15, 16, 17], os := [1] } [I64 (((i : Nat) : Int) + 1)] gamOK hT h (by kernel_rfl) ⟨⟨by first | omega | (simp only [lsA]; omega) | (simp <;> omega), by first | omega | (simp only [lsA]; omega) | (simp <;> omega)⟩, trivial⟩ fun a w h => ?_
    replace h := at_out (σ' := ⟨[(1, aP 1 0), (2, aB false), (6, aF (.int 3) x0), (7, aI ((List.length x0 : Nat) : Int)), (8, aI (((i : Nat) : Int) + 1))], [(1, oX 29 [.ro (.int 3) x0])]⟩) { ts := [1, 2, 6, 7, 8], os := [1] } h (by kernel_rfl)
    exact ⟨i + 1, at_eq h (st_congr1 (fun (d0 : Int) => (⟨[(1, aP 1 0), (2, aB false), (6, aF (.int 3) x0), (7, aI ((List.length x0 : Nat) : Int)), (8, aI d0)], [(1, oX 29 [.ro (.int 3) x0])]⟩ : St)) (show (((i : Nat) : Int) + 1 : Int) = (((i + 1) : Nat) : Int) from by first | with_reducible rfl | (omega) | rfl)), (by exact ⟨by omega, allTo1_succ hok0.2 (by first | assumption | (simp_all; done))⟩), (by omega)⟩
 ·replace h1 : ¬ (((i : Nat) : Int) < ((List.length x0 : Nat) : Int)) := of_decide_eq_false h1
  refine wp_exit (then_exit ?_)
  have hs6 : (List.all x0 (fun g => !decide (g = 1) && isGrp g)) = true := by exact all_of (z := 0) (i := i) (by omega) hok0.2
  refine then_exit (in_hit (then_normal (wp_seq ?_)))
  refine at_regq [] { ts := [2], os := [] } [True] gamOK hT h (by kernel_rfl) ⟨trivial, trivial⟩ fun a w h => then_normal (wp_ret ?_)
  exact at_return ((inR ((List.length x0 : Nat) : Int) 1 16), ()) [] h (by kernel_rfl) trivial (congrArg (fun z => (z, ())) (show ((inR ((List.length x0 : Nat) : Int) 1 16)) = validK x0 from by first | rfl | (unfold validK; rw [if_pos hs6])))
theorem validK_t {k : List Int} (h : validK k = true) : (1 ≤ List.length k ∧ List.length k ≤ 16) ∧ ∀ g ∈ k, isGrp g = true := by
 unfold validK at h
 split at h
 ·rename_i ha
  have := inR_t h
  refine ⟨by omega, fun g hg => ?_⟩
  have := List.all_eq_true.1 ha g hg
  rw [Bool.and_eq_true] at this
  exact this.2
 ·cases h

abbrev Q_spec_IsValidHashKey := (fun (x0 : (List Int)) => Sh.fit s29 x0)
def S_spec_IsValidHashKey : Sum := { fid := 59, dom := [s29], cod := [(.bool 4)], dp := true, fz := false, pre := fun x => Q_spec_IsValidHashKey x.1, g := fun x => ((validK x.1), ()) }
def S_spec_IsValidHashKey_tab : List (Nat × Sum) := [(73, S_spec_IsGroupElement), (36, S_spec_l1In)]
theorem S_spec_IsValidHashKey_ok : FnOK Tryz.prog 59 S_spec_IsValidHashKey := by
 refine at_enter 30 (fun x => ⟨[(0, aG [.ro (.int 3) x.1])], []⟩) Tryz.func59 rfl (by kernel_rfl) (fun x => rfl) ?_
 rintro w0 Z0 ⟨x0, u⟩ a w
 revert x0
 intro (x0 : (List Int)) hpre hlens h
 replace hpre : Q_spec_IsValidHashKey x0 := hpre
 have hT : TabOK Tryz.prog w0 [] S_spec_IsValidHashKey_tab := (.cons S_spec_IsGroupElement_ok (.cons S_spec_l1In_ok .nil))
 have hf0 : Sh.fit s29 x0 := hpre
 have hn0_1 : List.length x0 ≤ 1073741824 := hf0.1
 refine wp_seq ?_
 refine at_regq [{ ids := [1] }] { ts := [1, 2], os := [1] } [] gamOK hT h (by kernel_rfl) trivial fun a w h => then_normal (wp_seq (wp_seq ?_))
 refine at_regq [] { ts := [1, 2, 3], os := [1] } [] gamOK hT h (by kernel_rfl) trivial fun a w h => then_normal (wp_block ?_)
 replace h := at_out (σ' := ⟨[(1, aP 1 0), (2, aB false), (3, aI 0)], [(1, oX 29 [.ro (.int 3) x0])]⟩) { ts := [1, 2, 3], os := [1] } h (by kernel_rfl)
 refine at_loop (fun i : Nat => (⟨[(1, aP 1 0), (2, aB false), (3, aI ((i : Nat) : Int))], [(1, oX 29 [.ro (.int 3) x0])]⟩ : St)) (fun i => (i ≤ List.length x0 ∧ allTo1 (fun g => !decide (g = 1) && isGrp g) x0 0 i)) (fun i => List.length x0 - i) (0) h (st_congr1 (fun (d0 : Int) => (⟨[(1, aP 1 0), (2, aB false), (3, aI d0)], [(1, oX 29 [.ro (.int 3) x0])]⟩ : St)) (show (0 : Int) = (((0) : Nat) : Int) from by first | with_reducible rfl | (rfl) | rfl)) (by exact ⟨Nat.zero_le _, allTo1_zero⟩) ?_
 intro i a w hok0 h
 refine wp_seq (wp_seq ?_)
 refine at_regq [] { ts := [1, 2, 3, 8], os := [1] } [] gamOK hT h (by kernel_rfl) trivial fun a w h => then_normal ?_
 refine at_test (decide (((i : Nat) : Int) < ((List.length x0 : Nat) : Int))) h (by kernel_rfl) (fun h1 => ?_) (fun h1 => ?_)
 ·replace h1 : ((i : Nat) : Int) < ((List.length x0 : Nat) : Int) := of_decide_eq_true h1
  refine wp_skip (then_normal (wp_seq (wp_block (wp_seq ?_))))
  rcases Bool.eq_false_or_eq_true (!(isGrp (x0.getD i 0))) with h2 | h2
  ·have hzh2 : (isGrp (x0.getD i 0)) = false := notT h2
   refine at_regq [{}, {}, {}, {}, {}, {}, { hint := some (aB true) }] { ts := [1, 2, 3, 19, 20, 21, 22, 23, 24, 25], os := [1] } [(0 : Int) ≤ ((i : Nat) : Int) ∧ ((i : Nat) : Int) < ((List.length x0 : Nat) : Int), True, (AV.p (.c (.v (.bool (!(isGrp (x0.getD i 0)))))) = AV.p (.c (.v (.bool true))))] gamOK hT h (by kernel_rfl) ⟨(by refine ⟨?_, ?_⟩ <;> (first | omega | (simp only [lsA]; omega) | (simp <;> omega))), trivial, hint_bool (h2), trivial⟩ fun a w h => then_normal ?_
   refine at_test true h (by kernel_rfl) (fun hh => ?_) (fun hh => nomatch hh)
   refine wp_seq ?_
   refine at_regq [] { ts := [1, 2, 3, 19, 20, 21, 22, 23, 24], os := [1] } [] gamOK hT h (by kernel_rfl) trivial fun a w h => then_normal (wp_ret (in_ret (then_ret ?_)))
   have hs3 : (List.all x0 (fun g => !decide (g = 1) && isGrp g)) = false := by exact all_at (z := 0) (i := i) (by omega) (by first | assumption | (simp_all; done))
   refine then_ret (in_ret (then_ret ?_))
   exact at_return (false, ()) [] h (by kernel_rfl) trivial (congrArg (fun z => (z, ())) (show (false) = validK x0 from by first | rfl | (unfold validK; rw [if_neg (neT hs3)]; done) | (unfold validK; simp_all)))
  ·have hzh2 : (isGrp (x0.getD i 0)) = true := notF h2
   have hvh2 := isGrp_t (notF h2)
   refine at_regq [{}, {}, {}, {}, {}, {}, { hint := some (aB false) }] { ts := [1, 2, 3, 19, 20, 21, 22, 23, 24, 25], os := [1] } [(0 : Int) ≤ ((i : Nat) : Int) ∧ ((i : Nat) : Int) < ((List.length x0 : Nat) : Int), True, (AV.p (.c (.v (.bool (!(isGrp (x0.getD i 0)))))) = AV.p (.c (.v (.bool false)))), (0 : Int) ≤ ((i : Nat) : Int) ∧ ((i : Nat) : Int) < ((List.length x0 : Nat) : Int)] gamOK hT h (by kernel_rfl) ⟨(by refine ⟨?_, ?_⟩ <;> (first | omega | (simp only [lsA]; omega) | (simp <;> omega))), trivial, hint_bool (h2), (by refine ⟨?_, ?_⟩ <;> (first | omega | (simp only [lsA]; omega) | (simp <;> omega))), trivial⟩ fun a w h => then_normal ?_
   refine at_test (decide ((x0.getD i 0) = 1)) h (by kernel_rfl) (fun h4 => ?_) (fun h4 => ?_)
   ·replace h4 : (x0.getD i 0) = 1 := of_decide_eq_true h4
    refine wp_seq ?_
    refine at_regq [] { ts := [1, 2, 3, 19, 20, 21, 22, 23, 24], os := [1] } [] gamOK hT h (by kernel_rfl) trivial fun a w h => then_normal (wp_ret (in_ret (then_ret ?_)))
    have hs5 : (List.all x0 (fun g => !decide (g = 1) && isGrp g)) = false := by exact all_at (z := 0) (i := i) (by omega) (by first | assumption | (simp_all; done))
    refine then_ret (in_ret (then_ret ?_))
    exact at_return (false, ()) [] h (by kernel_rfl) trivial (congrArg (fun z => (z, ())) (show (false) = validK x0 from by first | rfl | (unfold validK; rw [if_neg (neT hs5)]; done) | (unfold validK; simp_all)))
   ·replace h4 : ¬ ((x0.getD i 0) = 1) := of_decide_eq_false h4
    refine wp_skip (in_normal (then_normal ?_))
    refine at_regq [{}, { nw := true }] { ts := [1, 2, 3, 19, 20, 21, 22, 23, 24], os := [1] } [I64 (((i : Nat) : Int) + 1)] gamOK hT h (by kernel_rfl) ⟨⟨by first | omega | (simp only [lsA]; omega) | (simp <;> omega), by first | omega | (simp only [lsA]; omega) | (simp <;> omega)⟩, trivial⟩ fun a w h => ?_
    replace h := at_out (σ' := ⟨[(1, aP 1 0), (2, aB false), (3, aI (((i : Nat) : Int) + 1))], [(1, oX 29 [.ro (.int 3) x0])]⟩) { ts := [1, 2, 3], os := [1] } h (by kernel_rfl)
    exact ⟨i + 1, at_eq h (st_congr1 (fun (d0 : Int) => (⟨[(1, aP 1 0), (2, aB false), (3, aI d0)], [(1, oX 29 [.ro (.int 3) x0])]⟩ : St)) (show (((i : Nat) : Int) + 1 : Int) = (((i + 1) : Nat) : Int) from by first | with_reducible rfl | (omega) | rfl)), (by exact ⟨by omega, allTo1_succ hok0.2 (by first | assumption | (simp_all; done))⟩), (by omega)⟩
 ·replace h1 : ¬ (((i : Nat) : Int) < ((List.length x0 : Nat) : Int)) := of_decide_eq_false h1
  refine wp_exit (then_exit ?_)
  have hs6 : (List.all x0 (fun g => !decide (g = 1) && isGrp g)) = true := by exact all_of (z := 0) (i := i) (by omega) hok0.2
  refine then_exit (in_hit (then_normal (wp_seq ?_)))
  refine at_regq [] { ts := [2], os := [] } [True] gamOK hT h (by kernel_rfl) ⟨trivial, trivial⟩ fun a w h => then_normal (wp_ret ?_)
  exact at_return ((inR ((List.length x0 : Nat) : Int) 1 16), ()) [] h (by kernel_rfl) trivial (congrArg (fun z => (z, ())) (show ((inR ((List.length x0 : Nat) : Int) 1 16)) = validK x0 from by first | rfl | (unfold validK; rw [if_pos hs6]; done) | (unfold validK; simp_all)))

def hashV (x0 : (List Int)) (x1 : (List Int)) : Int := (if (validK x0) = true then (if (validV x1) = true then (if ((List.length x1 : Nat) : Int) = ((List.length x0 : Nat) : Int) then (powsL x0 x1) else 0) else 0) else 0)
abbrev Q_impl_HashVector := (fun (x0 : (List Int)) (x1 : (List Int)) => Sh.fit s29 x0 ∧ Sh.fit s27 x1)
def S_impl_HashVector : Sum := { fid := 67, dom := [s29, s27], cod := [(.int 3)], dp := true, fz := false, pre := fun x => Q_impl_HashVector x.1 x.2.1, g := fun x => ((hashV x.1 x.2.1), ()) }
def S_impl_HashVector_tab : List (Nat × Sum) := [(46, S_impl_IsValidHashKey), (66, S_impl_IsValidVector), (81, S_impl_powers)]
theorem S_impl_HashVector_ok : FnOK Tryz.prog 67 S_impl_HashVector := by
 refine at_enter 25 (fun x => ⟨[(0, aG [.ro (.int 3) x.1]), (1, aF (.int 3) x.2.1)], []⟩) Tryz.func67 rfl (by kernel_rfl) (fun x => rfl) ?_
 rintro w0 Z0 ⟨x0, x1, u⟩ a w
 revert x0 x1
 intro (x0 : (List Int)) (x1 : (List Int)) hpre hlens h
 replace hpre : Q_impl_HashVector x0 x1 := hpre
 have hT : TabOK Tryz.prog w0 [] S_impl_HashVector_tab := (.cons S_impl_IsValidHashKey_ok (.cons S_impl_IsValidVector_ok (.cons S_impl_powers_ok .nil)))
 obtain ⟨hf0, hf1⟩ := hpre
 have hn0_1 : List.length x0 ≤ 1073741824 := hf0.1
 have hn1_2 : List.length x1 ≤ 1073741824 := hf1.1
 refine wp_seq ?_
 refine at_regq [{ ids := [1] }] { ts := [1, 2, 4], os := [1] } [] gamOK hT h (by kernel_rfl) trivial fun a w h => then_normal (wp_seq (wp_seq ?_))
 rcases Bool.eq_false_or_eq_true (!(validK x0)) with h1 | h1
 ·have hzh1 : (validK x0) = false := notT h1
  refine at_regq [{}, {}, { hint := some (aB true) }] { ts := [1, 2, 4, 20], os := [1] } [Q_impl_IsValidHashKey x0, (AV.p (.c (.v (.bool (!(validK x0))))) = AV.p (.c (.v (.bool true))))] gamOK hT h (by kernel_rfl) ⟨(by exact hf0), hint_bool (h1), trivial⟩ fun a w h => then_normal ?_
  refine at_test true h (by kernel_rfl) (fun hh => ?_) (fun hh => nomatch hh)
  refine wp_seq ?_
  refine at_regq [] { ts := [1, 2, 4], os := [1] } [] gamOK hT h (by kernel_rfl) trivial fun a w h => then_normal (wp_ret (then_ret ?_))
  exact at_return (0, ()) [] h (by kernel_rfl) trivial (congrArg (fun z => (z, ())) (show (0) = hashV x0 x1 from by first | rfl | (unfold hashV; rw [if_neg (neT (notT h1))])))
 ·have hzh1 : (validK x0) = true := notF h1
  have hvh1 := validK_t (notF h1)
  rcases Bool.eq_false_or_eq_true (!(validV x1)) with h2 | h2
  ·have hzh2 : (validV x1) = false := notT h2
   refine at_regq [{}, {}, { hint := some (aB false) }, {}, {}, {}, { hint := some (aB true) }] { ts := [1, 2, 4, 20], os := [1] } [Q_impl_IsValidHashKey x0, (AV.p (.c (.v (.bool (!(validK x0))))) = AV.p (.c (.v (.bool false)))), Q_impl_IsValidVector x1, (AV.p (.c (.v (.bool (!(validV x1))))) = AV.p (.c (.v (.bool true))))] gamOK hT h (by kernel_rfl) ⟨(by exact hf0), hint_bool (h1), (by exact hf1), hint_bool (h2), trivial⟩ fun a w h => then_normal ?_
   refine at_test true h (by kernel_rfl) (fun hh => ?_) (fun hh => nomatch hh)
   refine wp_seq ?_
   refine at_regq [] { ts := [1, 2, 4], os := [1] } [] gamOK hT h (by kernel_rfl) trivial fun a w h => then_normal (wp_ret (then_ret ?_))
   exact at_return (0, ()) [] h (by kernel_rfl) trivial (congrArg (fun z => (z, ())) (show (0) = hashV x0 x1 from by first | rfl | (unfold hashV; rw [if_pos (notF h1), if_neg (neT (notT h2))])))
  ·have hzh2 : (validV x1) = true := notF h2
   have hvh2 := validV_t (notF h2)
   refine at_regq [{}, {}, { hint := some (aB false) }, {}, {}, {}, { hint := some (aB false) }] { ts := [1, 2, 4, 20], os := [1] } [Q_impl_IsValidHashKey x0, (AV.p (.c (.v (.bool (!(validK x0))))) = AV.p (.c (.v (.bool false)))), Q_impl_IsValidVector x1, (AV.p (.c (.v (.bool (!(validV x1))))) = AV.p (.c (.v (.bool false))))] gamOK hT h (by kernel_rfl) ⟨(by exact hf0), hint_bool (h1), (by exact hf1), hint_bool (h2), trivial⟩ fun a w h => then_normal ?_
   refine at_test (!decide (((List.length x1 : Nat) : Int) = ((List.length x0 : Nat) : Int))) h (by kernel_rfl) (fun h3 => ?_) (fun h3 => ?_)
   ·replace h3 : ¬ (((List.length x1 : Nat) : Int) = ((List.length x0 : Nat) : Int)) := of_decide_eq_false (notT h3)
    refine wp_seq ?_
    refine at_regq [] { ts := [1, 2, 4], os := [1] } [] gamOK hT h (by kernel_rfl) trivial fun a w h => then_normal (wp_ret (then_ret ?_))
    exact at_return (0, ()) [] h (by kernel_rfl) trivial (congrArg (fun z => (z, ())) (show (0) = hashV x0 x1 from by first | rfl | (unfold hashV; rw [if_pos (notF h1), if_pos (notF h2), if_neg h3])))
   ·replace h3 : ((List.length x1 : Nat) : Int) = ((List.length x0 : Nat) : Int) := of_decide_eq_true (notF h3)
    refine wp_skip (then_normal (wp_seq ?_))
    refine at_regq [] { ts := [4], os := [] } [Q_impl_powers x0 x1] gamOK hT h (by kernel_rfl) ⟨(by exact ⟨hf0, hf1, by omega, grp_at (validK_t (by assumption)).2, (validV_t (by assumption)).2.2⟩), trivial⟩ fun a w h => then_normal (wp_ret ?_)
    exact at_return ((powsL x0 x1), ()) [] h (by kernel_rfl) trivial (congrArg (fun z => (z, ())) (show ((powsL x0 x1)) = hashV x0 x1 from by first | rfl | (unfold hashV; rw [if_pos (notF h1), if_pos (notF h2), if_pos h3])))

abbrev Q_spec_HashVector := (fun (x0 : (List Int)) (x1 : (List Int)) => Sh.fit s29 x0 ∧ Sh.fit s27 x1)
def S_spec_HashVector : Sum := { fid := 78, dom := [s29, s27], cod := [(.int 3)], dp := true, fz := false, pre := fun x => Q_spec_HashVector x.1 x.2.1, g := fun x => ((hashV x.1 x.2.1), ()) }
def S_spec_HashVector_tab : List (Nat × Sum) := [(59, S_spec_IsValidHashKey), (20, S_spec_IsValidVector), (55, S_spec_PowGroup), (94, S_spec_MulGroup)]
theorem S_spec_HashVector_ok : FnOK Tryz.prog 78 S_spec_HashVector := by
 refine at_enter 42 (fun x => ⟨[(0, aG [.ro (.int 3) x.1]), (1, aF (.int 3) x.2.1)], []⟩) Tryz.func78 rfl (by kernel_rfl) (fun x => rfl) ?_
 rintro w0 Z0 ⟨x0, x1, u⟩ a w
 revert x0 x1
 intro (x0 : (List Int)) (x1 : (List Int)) hpre hlens h
 replace hpre : Q_spec_HashVector x0 x1 := hpre
 have hT : TabOK Tryz.prog w0 [] S_spec_HashVector_tab := (.cons S_spec_IsValidHashKey_ok (.cons S_spec_IsValidVector_ok (.cons S_spec_PowGroup_ok (.cons S_spec_MulGroup_ok .nil))))
 obtain ⟨hf0, hf1⟩ := hpre
 have hn0_1 : List.length x0 ≤ 1073741824 := hf0.1
 have hn1_2 : List.length x1 ≤ 1073741824 := hf1.1
 refine wp_seq ?_
 refine at_regq [{ ids := [1] }] { ts := [1, 2, 4], os := [1] } [] gamOK hT h (by kernel_rfl) trivial fun a w h => then_normal (wp_seq (wp_seq ?_))
 rcases Bool.eq_false_or_eq_true (!(validK x0)) with h1 | h1
 ·have hzh1 : (validK x0) = false := notT h1
  refine at_regq [{}, {}, { hint := some (aB true) }] { ts := [1, 2, 4, 22], os := [1] } [Q_spec_IsValidHashKey x0, (AV.p (.c (.v (.bool (!(validK x0))))) = AV.p (.c (.v (.bool true))))] gamOK hT h (by kernel_rfl) ⟨(by exact hf0), hint_bool (h1), trivial⟩ fun a w h => then_normal ?_
  refine at_test true h (by kernel_rfl) (fun hh => ?_) (fun hh => nomatch hh)
  refine wp_seq ?_
  refine at_regq [] { ts := [1, 2, 4], os := [1] } [] gamOK hT h (by kernel_rfl) trivial fun a w h => then_normal (wp_ret (then_ret ?_))
  exact at_return (0, ()) [] h (by kernel_rfl) trivial (congrArg (fun z => (z, ())) (show (0) = hashV x0 x1 from by first | rfl | (unfold hashV; rw [if_neg (neT (notT h1))]; done) | (unfold hashV; simp_all)))
 ·have hzh1 : (validK x0) = true := notF h1
  have hvh1 := validK_t (notF h1)
  rcases Bool.eq_false_or_eq_true (!(validV x1)) with h2 | h2
  ·have hzh2 : (validV x1) = false := notT h2
   refine at_regq [{}, {}, { hint := some (aB false) }, {}, {}, {}, { hint := some (aB true) }] { ts := [1, 2, 4, 22], os := [1] } [Q_spec_IsValidHashKey x0, (AV.p (.c (.v (.bool (!(validK x0))))) = AV.p (.c (.v (.bool false)))), Q_spec_IsValidVector x1, (AV.p (.c (.v (.bool (!(validV x1))))) = AV.p (.c (.v (.bool true))))] gamOK hT h (by kernel_rfl) ⟨(by exact hf0), hint_bool (h1), (by exact hf1), hint_bool (h2), trivial⟩ fun a w h => then_normal ?_
   refine at_test true h (by kernel_rfl) (fun hh => ?_) (fun hh => nomatch hh)
   refine wp_seq ?_
   refine at_regq [] { ts := [1, 2, 4], os := [1] } [] gamOK hT h (by kernel_rfl) trivial fun a w h => then_normal (wp_ret (then_ret ?_))
   exact at_return (0, ()) [] h (by kernel_rfl) trivial (congrArg (fun z => (z, ())) (show (0) = hashV x0 x1 from by first | rfl | (unfold hashV; rw [if_pos (notF h1), if_neg (neT (notT h2))]; done) | (unfold hashV; simp_all)))
  ·have hzh2 : (validV x1) = true := notF h2
   have hvh2 := validV_t (notF h2)
   refine at_regq [{}, {}, { hint := some (aB false) }, {}, {}, {}, { hint := some (aB false) }] { ts := [1, 2, 4, 22], os := [1] } [Q_spec_IsValidHashKey x0, (AV.p (.c (.v (.bool (!(validK x0))))) = AV.p (.c (.v (.bool false)))), Q_spec_IsValidVector x1, (AV.p (.c (.v (.bool (!(validV x1))))) = AV.p (.c (.v (.bool false))))] gamOK hT h (by kernel_rfl) ⟨(by exact hf0), hint_bool (h1), (by exact hf1), hint_bool (h2), trivial⟩ fun a w h => then_normal ?_
   refine at_test (!decide (((List.length x1 : Nat) : Int) = ((List.length x0 : Nat) : Int))) h (by kernel_rfl) (fun h3 => ?_) (fun h3 => ?_)
   ·replace h3 : ¬ (((List.length x1 : Nat) : Int) = ((List.length x0 : Nat) : Int)) := of_decide_eq_false (notT h3)
    refine wp_seq ?_
    refine at_regq [] { ts := [1, 2, 4], os := [1] } [] gamOK hT h (by kernel_rfl) trivial fun a w h => then_normal (wp_ret (then_ret ?_))
    exact at_return (0, ()) [] h (by kernel_rfl) trivial (congrArg (fun z => (z, ())) (show (0) = hashV x0 x1 from by first | rfl | (unfold hashV; rw [if_pos (notF h1), if_pos (notF h2), if_neg h3]; done) | (unfold hashV; simp_all)))
   ·replace h3 : ((List.length x1 : Nat) : Int) = ((List.length x0 : Nat) : Int) := of_decide_eq_true (notF h3)
    refine wp_skip (then_normal (wp_seq ?_))
    refine at_regq [] { ts := [1, 2, 4, 5], os := [1] } [] gamOK hT h (by kernel_rfl) trivial fun a w h => then_normal (wp_seq (wp_seq ?_))
    refine at_regq [] { ts := [1, 2, 4, 5, 6], os := [1] } [] gamOK hT h (by kernel_rfl) trivial fun a w h => then_normal (wp_block ?_)
    replace h := at_out (σ' := ⟨[(1, aF (.int 3) x1), (2, aP 1 0), (4, aI 0), (5, aI 1), (6, aI 0)], [(1, oX 29 [.ro (.int 3) x0])]⟩) { ts := [1, 2, 4, 5, 6], os := [1] } h (by kernel_rfl)
    refine at_loop (fun i : Nat => (⟨[(1, aF (.int 3) x1), (2, aP 1 0), (4, aI 0), (5, aI (hpw x0 x1 i)), (6, aI ((i : Nat) : Int))], [(1, oX 29 [.ro (.int 3) x0])]⟩ : St)) (fun i => i ≤ List.length x1) (fun i => List.length x1 - i) (0) h (st_congr2 (fun (d0 : Int) (d1 : Int) => (⟨[(1, aF (.int 3) x1), (2, aP 1 0), (4, aI 0), (5, aI d0), (6, aI d1)], [(1, oX 29 [.ro (.int 3) x0])]⟩ : St)) (show (1 : Int) = (hpw x0 x1 (0)) from by first | with_reducible rfl | (rfl) | rfl) (show (0 : Int) = (((0) : Nat) : Int) from by first | with_reducible rfl | (rfl) | rfl)) (by omega) ?_
    intro i a w hok0 h
    refine wp_seq (wp_seq ?_)
    refine at_regq [] { ts := [1, 2, 4, 5, 6, 26], os := [1] } [] gamOK hT h (by kernel_rfl) trivial fun a w h => then_normal ?_
    refine at_test (decide (((i : Nat) : Int) < ((List.length x1 : Nat) : Int))) h (by kernel_rfl) (fun h4 => ?_) (fun h4 => ?_)
    ·replace h4 : ((i : Nat) : Int) < ((List.length x1 : Nat) : Int) := of_decide_eq_true h4
     have hkg := (validK_t (k := x0) (by assumption)).2
     have hvr := (validV_t (v := x1) (by assumption)).2.2
     have hke := hkg _ (getD_mem (z := 0) (show i < List.length x0 by omega))
     have hhg := hpw_grp hkg hvr i (by omega)
     refine wp_skip (then_normal (wp_seq (wp_block ?_)))
     refine at_anyq [{}, {}, {}, {}, {}, {}, {}, {}, {}, {}, {}, {}, {}] { ts := [1, 2, 4, 5, 6], os := [1] } [(0 : Int) ≤ ((i : Nat) : Int) ∧ ((i : Nat) : Int) < ((List.length x0 : Nat) : Int), (0 : Int) ≤ ((i : Nat) : Int) ∧ ((i : Nat) : Int) < ((List.length x1 : Nat) : Int), True, True] gamOK hT mixed h (by kernel_rfl) ⟨(by refine ⟨?_, ?_⟩ <;> (first | omega | (simp only [lsA]; omega) | (simp <;> omega))), (by refine ⟨?_, ?_⟩ <;> (first | omega | (simp only [lsA]; omega) | (simp <;> omega))), trivial, trivial, trivial⟩ fun a w h => in_normal (then_normal ?_)
     refine at_regq [{}, { nw := true }] { ts := [1, 2, 4, 5, 6], os := [1] } [I64 (((i : Nat) : Int) + 1)] gamOK hT h (by kernel_rfl) ⟨⟨by first | omega | (simp only [lsA]; omega) | (simp <;> omega), by first | omega | (simp only [lsA]; omega) | (simp <;> omega)⟩, trivial⟩ fun a w h => ?_
     replace h := at_out (σ' := ⟨[(1, aF (.int 3) x1), (2, aP 1 0), (4, aI 0), (5, aI (mulG (hpw x0 x1 i) (powG (x0.getD i 0) (x1.getD i 0)))), (6, aI (((i : Nat) : Int) + 1))], [(1, oX 29 [.ro (.int 3) x0])]⟩) { ts := [1, 2, 4, 5, 6], os := [1] } h (by kernel_rfl)
     exact ⟨i + 1, at_eq h (st_congr2 (fun (d0 : Int) (d1 : Int) => (⟨[(1, aF (.int 3) x1), (2, aP 1 0), (4, aI 0), (5, aI d0), (6, aI d1)], [(1, oX 29 [.ro (.int 3) x0])]⟩ : St)) (show ((mulG (hpw x0 x1 i) (powG (x0.getD i 0) (x1.getD i 0))) : Int) = (hpw x0 x1 (i + 1)) from by first | with_reducible rfl | (exact hpw_step hhg hke (hvr i)) | rfl) (show (((i : Nat) : Int) + 1 : Int) = (((i + 1) : Nat) : Int) from by first | with_reducible rfl | (omega) | rfl)), (by omega), (by omega)⟩
    ·replace h4 : ¬ (((i : Nat) : Int) < ((List.length x1 : Nat) : Int)) := of_decide_eq_false h4
     refine wp_exit (then_exit ?_)
     replace h := at_out (σ' := ⟨[(4, aI 0), (5, aI (hpw x0 x1 i))], []⟩) { ts := [4, 5], os := [] } h (by kernel_rfl)
     replace h := at_eq (σ' := ⟨[(4, aI 0), (5, aI (powsL x0 x1))], []⟩) h (st_congr1 (fun (d0 : Int) => (⟨[(4, aI 0), (5, aI d0)], []⟩ : St)) (show ((hpw x0 x1 i) : Int) = (powsL x0 x1) from by first | with_reducible rfl | (unfold powsL; rw [show List.length x0 = i by omega]) | rfl))
     refine then_exit (in_hit (then_normal (wp_seq ?_)))
     refine at_regq [] { ts := [4], os := [] } [] gamOK hT h (by kernel_rfl) trivial fun a w h => then_normal (wp_ret ?_)
     exact at_return ((powsL x0 x1), ()) [] h (by kernel_rfl) trivial (congrArg (fun z => (z, ())) (show ((powsL x0 x1)) = hashV x0 x1 from by first | rfl | (unfold hashV; rw [if_pos (notF h1), if_pos (notF h2), if_pos h3]; done) | (unfold hashV; simp_all)))
def hsOK (k : List Int) (g : T26) : Prop := validK k = true ∧ validG g = true ∧ colsOf g.2 = ((List.length k : Nat) : Int)
instance (k : List Int) (g : T26) : Decidable (hsOK k g) := by unfold hsOK; exact inferInstance
def hashSyms (k : List Int) (g : T26) : List Int := if hsOK k g then g.2.map (fun s => powsL k s) else []
theorem hashSyms_y {k : List Int} {g : T26} (h : hsOK k g) : g.2.map (fun s => powsL k s) = hashSyms k g := (if_pos h).symm
theorem hashSyms_n {k : List Int} {g : T26} (h : ¬ hsOK k g) : [] = hashSyms k g := (if_neg h).symm
theorem hashSyms_len {k : List Int} {g : T26} : List.length (hashSyms k g) ≤ List.length g.2 := by
 unfold hashSyms; split
 ·simp
 ·exact Nat.zero_le _
theorem hashSyms_nil {k : List Int} {g : T26} (h : List.length (hashSyms k g) = 0) : ¬ hsOK k g := fun e => by
 unfold hashSyms at h; rw [if_pos e, List.length_map] at h
 have := (validG_t e.2.1).2.1; omega
theorem hashV_sym {k : List Int} {g : T26} {i : Nat} (h : hsOK k g) (hi : i < List.length g.2) : hashV k (g.2.getD i []) = powsL k (g.2.getD i []) := by
 have hgm := (validG_t h.2.1).2.2.1
 have hgc := colsOf_at (m := g.2) (by omega)
 have hga := validM_at hgm i hi
 have hgv := (validM_t hgm).2 _ (getD_mem (z := []) hi)
 have h3 := h.2.2
 unfold hashV
 rw [if_pos h.1, if_pos hgv.1]
 first | rw [if_pos (by omega)] | rw [if_neg (by omega)]
theorem hashSyms_end {k : List Int} {g : T26} {i : Nat} (hi : i ≤ List.length g.2) (h : i = 0 ∨ hsOK k g) (he : List.length g.2 ≤ i ∨ ¬ hsOK k g) : List.map (fun s => powsL k s) (List.take i g.2) = hashSyms k g := by
 unfold hashSyms
 by_cases hs : hsOK k g
 ·rw [if_pos hs, take_all (by rcases he with he | he; exact he; exact absurd hs he)]
 ·rw [if_neg hs]
  rcases h with h | h
  ·rw [h]; rfl
  ·exact absurd h hs
def combH (hs cs : List Int) : Int := if validV cs = true ∧ List.length hs = List.length cs ∧ List.all hs isGrp = true then powsL hs cs else 0

abbrev Q_spec_HashSymbols := (fun (x0 : (List Int)) (x1 : T26) => Sh.fit s29 x0 ∧ Sh.fit s26 x1)
def S_spec_HashSymbols : Sum := { fid := 61, dom := [s29, s26], cod := [s27], dp := true, fz := false, pre := fun x => Q_spec_HashSymbols x.1 x.2.1, g := fun x => ((hashSyms x.1 x.2.1), ()) }
def S_spec_HashSymbols_tab : List (Nat × Sum) := [(19, S_spec_IsValidGeneration), (59, S_spec_IsValidHashKey), (34, S_spec_ColumnsOf), (78, S_spec_HashVector)]
theorem S_spec_HashSymbols_ok : FnOK Tryz.prog 61 S_spec_HashSymbols := by
 refine at_enter 43 (fun x => ⟨[(0, aG [.ro (.int 3) x.1]), (1, aG [cI x.2.1.1, .ro s27 x.2.1.2])], []⟩) Tryz.func61 rfl (by kernel_rfl) (fun x => rfl) ?_
 rintro w0 Z0 ⟨x0, x1, u⟩ a w
 revert x0 x1
 intro (x0 : (List Int)) (x1 : T26) hpre hlens h
 replace hpre : Q_spec_HashSymbols x0 x1 := hpre
 have hT : TabOK Tryz.prog w0 [] S_spec_HashSymbols_tab := (.cons S_spec_IsValidGeneration_ok (.cons S_spec_IsValidHashKey_ok (.cons S_spec_ColumnsOf_ok (.cons S_spec_HashVector_ok .nil))))
 obtain ⟨hf0, hf1⟩ := hpre
 have hn0_1 : List.length x0 ≤ 1073741824 := hf0.1
 have hn1_2 : List.length x1.2 ≤ 1073741824 := hf1.2.1
 refine wp_seq ?_
 refine at_regq [{ ids := [1] }, { ids := [2] }] { ts := [2, 3, 4], os := [1, 2] } [] gamOK hT h (by kernel_rfl) trivial fun a w h => then_normal (wp_seq ?_)
 refine at_regq [{ ids := [3] }] { ts := [2, 3, 4, 5], os := [1, 2, 3] } [] gamOK hT h (by kernel_rfl) trivial fun a w h => then_normal (wp_seq (wp_seq ?_))
 refine at_regq [] { ts := [2, 3, 4, 5, 6], os := [1, 2, 3] } [] gamOK hT h (by kernel_rfl) trivial fun a w h => then_normal (wp_block ?_)
 replace h := at_out (σ' := ⟨[(2, aP 1 0), (3, aP 2 0), (4, .p (.c (cN))), (5, aS 3), (6, aI 0)], [(1, oX 29 [.ro (.int 3) x0]), (2, oX 26 [cI x1.1, .ro s27 x1.2]), (3, oR (.int 3) ([] : List Int))]⟩) { ts := [2, 3, 4, 5, 6], os := [1, 2, 3] } h (by kernel_rfl)
 refine at_loop (fun i : Nat => (⟨[(2, aP 1 0), (3, aP 2 0), (4, .p (.c (cN))), (5, aS 3), (6, aI ((i : Nat) : Int))], [(1, oX 29 [.ro (.int 3) x0]), (2, oX 26 [cI x1.1, .ro s27 x1.2]), (3, oR (.int 3) (List.map (fun s => powsL x0 s) (List.take i x1.2)))]⟩ : St)) (fun i => (i ≤ List.length x1.2 ∧ (i = 0 ∨ hsOK x0 x1))) (fun i => List.length x1.2 - i) (0) h (st_congr2 (fun (d0 : List Int) (d1 : Int) => (⟨[(2, aP 1 0), (3, aP 2 0), (4, .p (.c (cN))), (5, aS 3), (6, aI d1)], [(1, oX 29 [.ro (.int 3) x0]), (2, oX 26 [cI x1.1, .ro s27 x1.2]), (3, oR (.int 3) d0)]⟩ : St)) (show (([] : List Int) : List Int) = (List.map (fun s => powsL x0 s) (List.take (0) x1.2)) from by first | with_reducible rfl | (first | rfl | simp) | rfl) (show (0 : Int) = (((0) : Nat) : Int) from by first | with_reducible rfl | (first | rfl | simp) | rfl)) (by exact ⟨Nat.zero_le _, Or.inl rfl⟩) ?_
 intro i a w hok0 h
 have hlt := len_take_le (xs := x1.2) i
 refine wp_seq (wp_seq ?_)
 by_cases h1 : ((i : Nat) : Int) < ((List.length x1.2 : Nat) : Int)
 ·rcases Bool.eq_false_or_eq_true ((validG x1)) with h2 | h2
  ·have hvh2 := validG_t h2
   rcases Bool.eq_false_or_eq_true ((validK x0)) with h3 | h3
   ·have hvh3 := validK_t h3
    refine at_anyq [{}, {}, {}, {}, { hint := some (aB true) }, {}, {}, { hint := some (aB true) }, {}, {}, {}, { hint := some (aB true) }, {}, {}, {}, {}, {}, {}, {}, {}, {}, {}] { ts := [2, 3, 4, 5, 6, 14, 15, 18, 19, 22, 23, 24, 25, 26, 27, 28, 29], os := [1, 2, 3] } [(AV.p (.c (.v (.bool (decide (((i : Nat) : Int) < ((List.length x1.2 : Nat) : Int)))))) = AV.p (.c (.v (.bool true)))), Q_spec_IsValidGeneration x1, (AV.p (.c (.v (.bool ((validG x1))))) = AV.p (.c (.v (.bool true)))), Q_spec_IsValidHashKey x0, (AV.p (.c (.v (.bool ((validK x0))))) = AV.p (.c (.v (.bool true)))), Q_spec_ColumnsOf x1.2] gamOK hT mixed h (by kernel_rfl) ⟨hint_bool (decide_eq_true h1), (by exact hf1), hint_bool (h2), (by exact hf0), hint_bool (h3), (by exact hf1.2), trivial⟩ fun a w h => then_normal ?_
    refine at_test (decide ((colsOf x1.2) = ((List.length x0 : Nat) : Int))) h (by kernel_rfl) (fun h4 => ?_) (fun h4 => ?_)
    ·replace h4 : (colsOf x1.2) = ((List.length x0 : Nat) : Int) := of_decide_eq_true h4
     refine wp_skip (then_normal (wp_seq (wp_block ?_)))
     refine at_anyq [{}, {}, {}, {}, {}, {}, {}, {}, { ids := [4] }, { ids := [5] }, {}] { ts := [2, 3, 4, 5, 6, 14, 15, 18, 19, 22, 23, 24, 25, 26, 27, 28], os := [1, 2, 5] } [(0 : Int) ≤ ((i : Nat) : Int) ∧ ((i : Nat) : Int) < ((List.length x1.2 : Nat) : Int), Q_spec_HashVector x0 (x1.2.getD i []), (List.length (List.map (fun s => powsL x0 s) (List.take i x1.2)) + List.length ([(hashV x0 (x1.2.getD i []))])) * 8 ≤ 140737488355328] gamOK hT mixed h (by kernel_rfl) ⟨(by refine ⟨?_, ?_⟩ <;> (first | omega | (simp only [lsA]; omega) | (simp <;> omega))), (by exact ⟨hf0, Sh.fit_getD hf1.2 i⟩), (by first | omega | (simp only [lsA]; omega) | (simp <;> omega)), trivial⟩ fun a w h => in_normal (then_normal ?_)
     refine at_regq [{}, { nw := true }] { ts := [2, 3, 4, 5, 6, 14, 15, 18, 19, 22, 23, 24, 25, 26, 27, 28], os := [1, 2, 5] } [I64 (((i : Nat) : Int) + 1)] gamOK hT h (by kernel_rfl) ⟨⟨by first | omega | (simp only [lsA]; omega) | (simp <;> omega), by first | omega | (simp only [lsA]; omega) | (simp <;> omega)⟩, trivial⟩ fun a w h => ?_
     replace h := at_out (σ' := ⟨[(2, aP 1 0), (3, aP 2 0), (4, .p (.c (cN))), (5, aS 3), (6, aI (((i : Nat) : Int) + 1))], [(1, oX 29 [.ro (.int 3) x0]), (2, oX 26 [cI x1.1, .ro s27 x1.2]), (3, oR (.int 3) ((List.map (fun s => powsL x0 s) (List.take i x1.2)) ++ ([(hashV x0 (x1.2.getD i []))])))]⟩) { ts := [2, 3, 4, 5, 6], os := [1, 2, 5], rn := [(5, 3)] } h (by kernel_rfl)
     exact ⟨i + 1, at_eq h (st_congr2 (fun (d0 : List Int) (d1 : Int) => (⟨[(2, aP 1 0), (3, aP 2 0), (4, .p (.c (cN))), (5, aS 3), (6, aI d1)], [(1, oX 29 [.ro (.int 3) x0]), (2, oX 26 [cI x1.1, .ro s27 x1.2]), (3, oR (.int 3) d0)]⟩ : St)) (show (((List.map (fun s => powsL x0 s) (List.take i x1.2)) ++ ([(hashV x0 (x1.2.getD i []))])) : List Int) = (List.map (fun s => powsL x0 s) (List.take (i + 1) x1.2)) from by first | with_reducible rfl | ((rw [map_snoc (z := []) (by omega), hashV_sym ⟨by assumption, by assumption, by omega⟩ (by omega)]; done)) | rfl) (show (((i : Nat) : Int) + 1 : Int) = (((i + 1) : Nat) : Int) from by first | with_reducible rfl | (omega) | rfl)), (by exact ⟨by omega, Or.inr ⟨by assumption, by assumption, by omega⟩⟩), (by omega)⟩
    ·replace h4 : ¬ ((colsOf x1.2) = ((List.length x0 : Nat) : Int)) := of_decide_eq_false h4
     refine wp_exit (then_exit (then_exit (in_hit (then_normal (wp_seq ?_)))))
     refine at_regq [] { ts := [4], os := [3] } [] gamOK hT h (by kernel_rfl) trivial fun a w h => then_normal (wp_ret ?_)
     exact at_return ((List.map (fun s => powsL x0 s) (List.take i x1.2)), ()) [] h (by kernel_rfl) trivial (congrArg (fun z => (z, ())) (show ((List.map (fun s => powsL x0 s) (List.take i x1.2))) = hashSyms x0 x1 from by exact hashSyms_end hok0.1 hok0.2 (by first | (left; omega) | (right; intro e; have e1 := e.1; have e2 := e.2.1; have e3 := e.2.2; first | omega | (simp_all; done)))))
   ·refine at_anyq [{}, {}, {}, {}, { hint := some (aB true) }, {}, {}, { hint := some (aB true) }, {}, {}, {}, { hint := some (aB false) }, {}, {}, {}, {}, {}, {}, {}, {}, {}, {}] { ts := [2, 3, 4, 5, 6, 14, 15, 18, 19, 22, 23, 24, 25, 26, 27, 28, 29], os := [1, 2, 3] } [(AV.p (.c (.v (.bool (decide (((i : Nat) : Int) < ((List.length x1.2 : Nat) : Int)))))) = AV.p (.c (.v (.bool true)))), Q_spec_IsValidGeneration x1, (AV.p (.c (.v (.bool ((validG x1))))) = AV.p (.c (.v (.bool true)))), Q_spec_IsValidHashKey x0, (AV.p (.c (.v (.bool ((validK x0))))) = AV.p (.c (.v (.bool false))))] gamOK hT mixed h (by kernel_rfl) ⟨hint_bool (decide_eq_true h1), (by exact hf1), hint_bool (h2), (by exact hf0), hint_bool (h3), trivial⟩ fun a w h => then_normal ?_
    refine at_test false h (by kernel_rfl) (fun hh => nomatch hh) (fun hh => ?_)
    refine wp_exit (then_exit (then_exit (in_hit (then_normal (wp_seq ?_)))))
    refine at_regq [] { ts := [4], os := [3] } [] gamOK hT h (by kernel_rfl) trivial fun a w h => then_normal (wp_ret ?_)
    exact at_return ((List.map (fun s => powsL x0 s) (List.take i x1.2)), ()) [] h (by kernel_rfl) trivial (congrArg (fun z => (z, ())) (show ((List.map (fun s => powsL x0 s) (List.take i x1.2))) = hashSyms x0 x1 from by exact hashSyms_end hok0.1 hok0.2 (by first | (left; omega) | (right; intro e; have e1 := e.1; have e2 := e.2.1; have e3 := e.2.2; first | omega | (simp_all; done)))))
  ·refine at_anyq [{}, {}, {}, {}, { hint := some (aB true) }, {}, {}, { hint := some (aB false) }, {}, {}, {}, {}, {}, {}, {}, {}, {}, {}, {}, {}, {}, {}] { ts := [2, 3, 4, 5, 6, 14, 15, 18, 19, 22, 23, 24, 25, 26, 27, 28, 29], os := [1, 2, 3] } [(AV.p (.c (.v (.bool (decide (((i : Nat) : Int) < ((List.length x1.2 : Nat) : Int)))))) = AV.p (.c (.v (.bool true)))), Q_spec_IsValidGeneration x1, (AV.p (.c (.v (.bool ((validG x1))))) = AV.p (.c (.v (.bool false))))] gamOK hT mixed h (by kernel_rfl) ⟨hint_bool (decide_eq_true h1), (by exact hf1), hint_bool (h2), trivial⟩ fun a w h => then_normal ?_
   refine at_test false h (by kernel_rfl) (fun hh => nomatch hh) (fun hh => ?_)
   refine wp_exit (then_exit (then_exit (in_hit (then_normal (wp_seq ?_)))))
   refine at_regq [] { ts := [4], os := [3] } [] gamOK hT h (by kernel_rfl) trivial fun a w h => then_normal (wp_ret ?_)
   exact at_return ((List.map (fun s => powsL x0 s) (List.take i x1.2)), ()) [] h (by kernel_rfl) trivial (congrArg (fun z => (z, ())) (show ((List.map (fun s => powsL x0 s) (List.take i x1.2))) = hashSyms x0 x1 from by exact hashSyms_end hok0.1 hok0.2 (by first | (left; omega) | (right; intro e; have e1 := e.1; have e2 := e.2.1; have e3 := e.2.2; first | omega | (simp_all; done)))))
 ·refine at_anyq [{}, {}, {}, {}, { hint := some (aB false) }, {}, {}, {}, {}, {}, {}, {}, {}, {}, {}, {}, {}, {}, {}, {}, {}, {}] { ts := [2, 3, 4, 5, 6, 14, 15, 18, 19, 22, 23, 24, 25, 26, 27, 28, 29], os := [1, 2, 3] } [(AV.p (.c (.v (.bool (decide (((i : Nat) : Int) < ((List.length x1.2 : Nat) : Int)))))) = AV.p (.c (.v (.bool false))))] gamOK hT mixed h (by kernel_rfl) ⟨hint_bool (decide_eq_false h1), trivial⟩ fun a w h => then_normal ?_
  refine at_test false h (by kernel_rfl) (fun hh => nomatch hh) (fun hh => ?_)
  refine wp_exit (then_exit (then_exit (in_hit (then_normal (wp_seq ?_)))))
  refine at_regq [] { ts := [4], os := [3] } [] gamOK hT h (by kernel_rfl) trivial fun a w h => then_normal (wp_ret ?_)
  exact at_return ((List.map (fun s => powsL x0 s) (List.take i x1.2)), ()) [] h (by kernel_rfl) trivial (congrArg (fun z => (z, ())) (show ((List.map (fun s => powsL x0 s) (List.take i x1.2))) = hashSyms x0 x1 from by exact hashSyms_end hok0.1 hok0.2 (by first | (left; omega) | (right; intro e; have e1 := e.1; have e2 := e.2.1; have e3 := e.2.2; first | omega | (simp_all; done)))))

abbrev Q_impl_CombineHashes := (fun (x0 : (List Int)) (x1 : (List Int)) => Sh.fit s27 x0 ∧ Sh.fit s27 x1)
def S_impl_CombineHashes : Sum := { fid := 68, dom := [s27, s27], cod := [(.int 3)], dp := true, fz := false, pre := fun x => Q_impl_CombineHashes x.1 x.2.1, g := fun x => ((combH x.1 x.2.1), ()) }
def S_impl_CombineHashes_tab : List (Nat × Sum) := [(66, S_impl_IsValidVector), (45, S_impl_IsGroupElement), (81, S_impl_powers)]
theorem S_impl_CombineHashes_ok : FnOK Tryz.prog 68 S_impl_CombineHashes := by
 refine at_enter 30 (fun x => ⟨[(0, aF (.int 3) x.1), (1, aF (.int 3) x.2.1)], []⟩) Tryz.func68 rfl (by kernel_rfl) (fun x => rfl) ?_
 rintro w0 Z0 ⟨x0, x1, u⟩ a w
 revert x0 x1
 intro (x0 : (List Int)) (x1 : (List Int)) hpre hlens h
 replace hpre : Q_impl_CombineHashes x0 x1 := hpre
 have hT : TabOK Tryz.prog w0 [] S_impl_CombineHashes_tab := (.cons S_impl_IsValidVector_ok (.cons S_impl_IsGroupElement_ok (.cons S_impl_powers_ok .nil)))
 obtain ⟨hf0, hf1⟩ := hpre
 have hn0_1 : List.length x0 ≤ 1073741824 := hf0.1
 have hn1_2 : List.length x1 ≤ 1073741824 := hf1.1
 refine wp_seq ?_
 refine at_regq [] { ts := [0, 1, 4], os := [] } [] gamOK hT h (by kernel_rfl) trivial fun a w h => then_normal (wp_seq (wp_seq ?_))
 rcases Bool.eq_false_or_eq_true (!(validV x1)) with h1 | h1
 ·have hzh1 : (validV x1) = false := notT h1
  refine at_regq [{}, {}, { hint := some (aB true) }] { ts := [0, 1, 4, 16], os := [] } [Q_impl_IsValidVector x1, (AV.p (.c (.v (.bool (!(validV x1))))) = AV.p (.c (.v (.bool true))))] gamOK hT h (by kernel_rfl) ⟨(by exact hf1), hint_bool (h1), trivial⟩ fun a w h => then_normal ?_
  refine at_test true h (by kernel_rfl) (fun hh => ?_) (fun hh => nomatch hh)
  refine wp_seq ?_
  refine at_regq [] { ts := [0, 1, 4], os := [] } [] gamOK hT h (by kernel_rfl) trivial fun a w h => then_normal (wp_ret (then_ret ?_))
  exact at_return (0, ()) [] h (by kernel_rfl) trivial (congrArg (fun z => (z, ())) (show (0) = combH x0 x1 from by (unfold combH; first | (rw [if_pos ⟨by assumption, by omega, by assumption⟩]; done) | (rw [if_neg (fun e => by have e1 := e.1; have e2 := e.2.1; have e3 := e.2.2; first | omega | (simp_all; done))]; done))))
 ·have hzh1 : (validV x1) = true := notF h1
  have hvh1 := validV_t (notF h1)
  refine at_regq [{}, {}, { hint := some (aB false) }] { ts := [0, 1, 4, 16], os := [] } [Q_impl_IsValidVector x1, (AV.p (.c (.v (.bool (!(validV x1))))) = AV.p (.c (.v (.bool false))))] gamOK hT h (by kernel_rfl) ⟨(by exact hf1), hint_bool (h1), trivial⟩ fun a w h => then_normal ?_
  refine at_test (!decide (((List.length x0 : Nat) : Int) = ((List.length x1 : Nat) : Int))) h (by kernel_rfl) (fun h2 => ?_) (fun h2 => ?_)
  ·replace h2 : ¬ (((List.length x0 : Nat) : Int) = ((List.length x1 : Nat) : Int)) := of_decide_eq_false (notT h2)
   refine wp_seq ?_
   refine at_regq [] { ts := [0, 1, 4], os := [] } [] gamOK hT h (by kernel_rfl) trivial fun a w h => then_normal (wp_ret (then_ret ?_))
   exact at_return (0, ()) [] h (by kernel_rfl) trivial (congrArg (fun z => (z, ())) (show (0) = combH x0 x1 from by (unfold combH; first | (rw [if_pos ⟨by assumption, by omega, by assumption⟩]; done) | (rw [if_neg (fun e => by have e1 := e.1; have e2 := e.2.1; have e3 := e.2.2; first | omega | (simp_all; done))]; done))))
  ·replace h2 : ((List.length x0 : Nat) : Int) = ((List.length x1 : Nat) : Int) := of_decide_eq_true (notF h2)
   refine wp_skip (then_normal (wp_seq (wp_seq ?_)))
   refine at_regq [] { ts := [0, 1, 4, 17, 18, 19], os := [] } [] gamOK hT h (by kernel_rfl) trivial fun a w h => then_normal (wp_block ?_)
   replace h := at_out (σ' := ⟨[(0, aF (.int 3) x0), (1, aF (.int 3) x1), (4, aI 0), (17, aF (.int 3) x0), (18, aI ((List.length x0 : Nat) : Int)), (19, aI 0)], []⟩) { ts := [0, 1, 4, 17, 18, 19], os := [] } h (by kernel_rfl)
   refine at_loop (fun i : Nat => (⟨[(0, aF (.int 3) x0), (1, aF (.int 3) x1), (4, aI 0), (17, aF (.int 3) x0), (18, aI ((List.length x0 : Nat) : Int)), (19, aI ((i : Nat) : Int))], []⟩ : St)) (fun i => (i ≤ List.length x0 ∧ allTo1 isGrp x0 0 i)) (fun i => List.length x0 - i) (0) h (st_congr1 (fun (d0 : Int) => (⟨[(0, aF (.int 3) x0), (1, aF (.int 3) x1), (4, aI 0), (17, aF (.int 3) x0), (18, aI ((List.length x0 : Nat) : Int)), (19, aI d0)], []⟩ : St)) (show (0 : Int) = (((0) : Nat) : Int) from by first | with_reducible rfl | (rfl) | rfl)) (by exact ⟨Nat.zero_le _, allTo1_zero⟩) ?_
   intro i a w hok0 h
   refine wp_seq ?_
   refine at_regq [] { ts := [0, 1, 4, 17, 18, 19, 20], os := [] } [] gamOK hT h (by kernel_rfl) trivial fun a w h => then_normal (wp_seq ?_)
   refine at_test (decide (((i : Nat) : Int) < ((List.length x0 : Nat) : Int))) h (by kernel_rfl) (fun h3 => ?_) (fun h3 => ?_)
   ·replace h3 : ((i : Nat) : Int) < ((List.length x0 : Nat) : Int) := of_decide_eq_true h3
    refine wp_skip (then_normal (wp_seq (wp_block (wp_seq ?_))))
    refine at_regq [] { ts := [0, 1, 4, 6, 17, 18, 19], os := [] } [(0 : Int) ≤ ((i : Nat) : Int) ∧ ((i : Nat) : Int) < ((List.length x0 : Nat) : Int)] gamOK hT h (by kernel_rfl) ⟨(by refine ⟨?_, ?_⟩ <;> (first | omega | (simp only [lsA]; omega) | (simp <;> omega))), trivial⟩ fun a w h => then_normal (wp_seq ?_)
    refine at_regq [] { ts := [0, 1, 4, 17, 18, 19, 25], os := [] } [True] gamOK hT h (by kernel_rfl) ⟨trivial, trivial⟩ fun a w h => then_normal ?_
    refine at_test (!(isGrp (x0.getD i 0))) h (by kernel_rfl) (fun h4 => ?_) (fun h4 => ?_)
    ·replace h4 : (isGrp (x0.getD i 0)) = false := notT h4
     refine wp_seq ?_
     refine at_regq [] { ts := [0, 1, 4, 17, 18, 19], os := [] } [] gamOK hT h (by kernel_rfl) trivial fun a w h => then_normal (wp_ret (in_ret (then_ret ?_)))
     have hs5 : (List.all x0 isGrp) = false := by exact all_at (z := 0) (i := i) (by omega) (by first | assumption | (simp_all; done))
     refine then_ret (in_ret (then_ret ?_))
     exact at_return (0, ()) [] h (by kernel_rfl) trivial (congrArg (fun z => (z, ())) (show (0) = combH x0 x1 from by (unfold combH; first | (rw [if_pos ⟨by assumption, by omega, by assumption⟩]; done) | (rw [if_neg (fun e => by have e1 := e.1; have e2 := e.2.1; have e3 := e.2.2; first | omega | (simp_all; done))]; done))))
    ·replace h4 : (isGrp (x0.getD i 0)) = true := notF h4
     have hvh4 := isGrp_t h4
     refine wp_skip (in_normal (then_normal ?_))
     refine at_regq [{ nw := true }] { ts := [0, 1, 4, 17, 18, 19], os := [] } [I64 (((i : Nat) : Int) + 1)] gamOK hT h (by kernel_rfl) ⟨⟨by first | omega | (simp only [lsA]; omega) | (simp <;> omega), by first | omega | (simp only [lsA]; omega) | (simp <;> omega)⟩, trivial⟩ fun a w h => ?_
     replace h := at_out (σ' := ⟨[(0, aF (.int 3) x0), (1, aF (.int 3) x1), (4, aI 0), (17, aF (.int 3) x0), (18, aI ((List.length x0 : Nat) : Int)), (19, aI (((i : Nat) : Int) + 1))], []⟩) { ts := [0, 1, 4, 17, 18, 19], os := [] } h (by kernel_rfl)
     exact ⟨i + 1, at_eq h (st_congr1 (fun (d0 : Int) => (⟨[(0, aF (.int 3) x0), (1, aF (.int 3) x1), (4, aI 0), (17, aF (.int 3) x0), (18, aI ((List.length x0 : Nat) : Int)), (19, aI d0)], []⟩ : St)) (show (((i : Nat) : Int) + 1 : Int) = (((i + 1) : Nat) : Int) from by first | with_reducible rfl | (omega) | rfl)), (by exact ⟨by omega, allTo1_succ hok0.2 (by first | assumption | (simp_all; done))⟩), (by omega)⟩
   ·replace h3 : ¬ (((i : Nat) : Int) < ((List.length x0 : Nat) : Int)) := of_decide_eq_false h3
    refine wp_exit (then_exit ?_)
    have hs6 : (List.all x0 isGrp) = true := by exact all_of (z := 0) (i := i) (by omega) hok0.2
    refine then_exit (in_hit (then_normal (wp_seq ?_)))
    refine at_regq [] { ts := [4], os := [] } [Q_impl_powers x0 x1] gamOK hT h (by kernel_rfl) ⟨(by exact ⟨hf0, hf1, by omega, grp_at (List.all_eq_true.1 (by assumption)), (validV_t (by assumption)).2.2⟩), trivial⟩ fun a w h => then_normal (wp_ret ?_)
    exact at_return ((powsL x0 x1), ()) [] h (by kernel_rfl) trivial (congrArg (fun z => (z, ())) (show ((powsL x0 x1)) = combH x0 x1 from by (unfold combH; first | (rw [if_pos ⟨by assumption, by omega, by assumption⟩]; done) | (rw [if_neg (fun e => by have e1 := e.1; have e2 := e.2.1; have e3 := e.2.2; first | omega | (simp_all; done))]; done))))

def verH (x0 : (List Int)) (x1 : (List Int)) (x2 : T36) : Bool := (if (hashV x0 x2.2.2) = 0 then false else decide ((hashV x0 x2.2.2) = (combH x1 x2.2.1)))
abbrev Q_impl_VerifyHash := (fun (x0 : (List Int)) (x1 : (List Int)) (x2 : T36) => Sh.fit s29 x0 ∧ Sh.fit s27 x1 ∧ Sh.fit s36 x2)
def S_impl_VerifyHash : Sum := { fid := 48, dom := [s29, s27, s36], cod := [(.bool 4)], dp := true, fz := false, pre := fun x => Q_impl_VerifyHash x.1 x.2.1 x.2.2.1, g := fun x => ((verH x.1 x.2.1 x.2.2.1), ()) }
def S_impl_VerifyHash_tab : List (Nat × Sum) := [(67, S_impl_HashVector), (68, S_impl_CombineHashes)]
theorem S_impl_VerifyHash_ok : FnOK Tryz.prog 48 S_impl_VerifyHash := by
 refine at_enter 22 (fun x => ⟨[(0, aG [.ro (.int 3) x.1]), (1, aF (.int 3) x.2.1), (2, aG [cI x.2.2.1.1, .ro (.int 3) x.2.2.1.2.1, .ro (.int 3) x.2.2.1.2.2])], []⟩) Tryz.func48 rfl (by kernel_rfl) (fun x => rfl) ?_
 rintro w0 Z0 ⟨x0, x1, x2, u⟩ a w
 revert x0 x1 x2
 intro (x0 : (List Int)) (x1 : (List Int)) (x2 : T36) hpre hlens h
 replace hpre : Q_impl_VerifyHash x0 x1 x2 := hpre
 have hT : TabOK Tryz.prog w0 [] S_impl_VerifyHash_tab := (.cons S_impl_HashVector_ok (.cons S_impl_CombineHashes_ok .nil))
 obtain ⟨hf0, hf1, hf2⟩ := hpre
 have hn0_1 : List.length x0 ≤ 1073741824 := hf0.1
 have hn1_2 : List.length x1 ≤ 1073741824 := hf1.1
 have hn2_3 : List.length x2.2.1 ≤ 1073741824 := hf2.2.1.1
 have hn2_4 : List.length x2.2.2 ≤ 1073741824 := hf2.2.2.1
 refine wp_seq ?_
 refine at_regq [{ ids := [1] }, { ids := [2] }] { ts := [1, 3, 5, 6], os := [1, 2] } [] gamOK hT h (by kernel_rfl) trivial fun a w h => then_normal (wp_seq ?_)
 refine at_regq [] { ts := [1, 5, 6, 7], os := [2] } [Q_impl_HashVector x0 x2.2.2] gamOK hT h (by kernel_rfl) ⟨(by exact ⟨hf0, hf2.2.2⟩), trivial⟩ fun a w h => then_normal (wp_seq ?_)
 by_cases h1 : (hashV x0 x2.2.2) = 0
 ·refine at_regq [{}, { hint := some (aB false) }] { ts := [6], os := [] } [(AV.p (.c (.v (.bool (!decide ((hashV x0 x2.2.2) = 0))))) = AV.p (.c (.v (.bool false))))] gamOK hT h (by kernel_rfl) ⟨hint_bool (ndT h1), trivial⟩ fun a w h => then_normal (wp_ret ?_)
  exact at_return (false, ()) [] h (by kernel_rfl) trivial (congrArg (fun z => (z, ())) (show (false) = verH x0 x1 x2 from by first | rfl | (unfold verH; rw [if_pos h1])))
 ·refine at_regq [{}, { hint := some (aB true) }] { ts := [6], os := [] } [(AV.p (.c (.v (.bool (!decide ((hashV x0 x2.2.2) = 0))))) = AV.p (.c (.v (.bool true)))), Q_impl_CombineHashes x1 x2.2.1] gamOK hT h (by kernel_rfl) ⟨hint_bool (ndF h1), (by exact ⟨hf1, hf2.2.1⟩), trivial⟩ fun a w h => then_normal (wp_ret ?_)
  exact at_return (decide ((hashV x0 x2.2.2) = (combH x1 x2.2.1)), ()) [] h (by kernel_rfl) trivial (congrArg (fun z => (z, ())) (show (decide ((hashV x0 x2.2.2) = (combH x1 x2.2.1))) = verH x0 x1 x2 from by first | rfl | (unfold verH; rw [if_neg h1])))

def isFmt (x0 : Int) (x1 : Int) (x2 : Int) : Bool := (if (inR x0 0 1000000000000) = true then (if (inR x1 1 8) = true then (inR x2 1 16) else false) else false)
def S_impl_isFormat : Sum := { fid := 42, dom := [(.int 3), (.int 3), (.int 3)], cod := [(.bool 4)], dp := true, fz := false, pre := fun x => True, g := fun x => ((isFmt x.1 x.2.1 x.2.2.1), ()) }
def S_impl_isFormat_tab : List (Nat × Sum) := [(41, S_impl_InRange)]
theorem S_impl_isFormat_ok : FnOK Tryz.prog 42 S_impl_isFormat := by
 refine at_enter 17 (fun x => ⟨[(0, aI x.1), (1, aI x.2.1), (2, aI x.2.2.1)], []⟩) Tryz.func42 rfl (by kernel_rfl) (fun x => rfl) ?_
 rintro w0 Z0 ⟨x0, x1, x2, u⟩ a w
 revert x0 x1 x2
 intro (x0 : Int) (x1 : Int) (x2 : Int) hpre hlens h
 have hT : TabOK Tryz.prog w0 [] S_impl_isFormat_tab := (.cons S_impl_InRange_ok .nil)
 refine wp_seq ?_
 refine at_regq [] { ts := [0, 1, 2, 6], os := [] } [] gamOK hT h (by kernel_rfl) trivial fun a w h => then_normal (wp_seq ?_)
 rcases Bool.eq_false_or_eq_true ((inR x0 0 1000000000000)) with h1 | h1
 ·have hvh1 := inR_t h1
  rcases Bool.eq_false_or_eq_true ((inR x1 1 8)) with h2 | h2
  ·have hvh2 := inR_t h2
   refine at_regq [{}, { hint := some (aB true) }, {}, {}, { hint := some (aB true) }] { ts := [6], os := [] } [True, (AV.p (.c (.v (.bool ((inR x0 0 1000000000000))))) = AV.p (.c (.v (.bool true)))), True, (AV.p (.c (.v (.bool ((inR x1 1 8))))) = AV.p (.c (.v (.bool true)))), True] gamOK hT h (by kernel_rfl) ⟨trivial, hint_bool (h1), trivial, hint_bool (h2), trivial, trivial⟩ fun a w h => then_normal (wp_ret ?_)
   exact at_return ((inR x2 1 16), ()) [] h (by kernel_rfl) trivial (congrArg (fun z => (z, ())) (show ((inR x2 1 16)) = isFmt x0 x1 x2 from by first | rfl | (unfold isFmt; rw [if_pos h1, if_pos h2])))
  ·have hvh2 := inR_f h2
   refine at_regq [{}, { hint := some (aB true) }, {}, {}, { hint := some (aB false) }] { ts := [6], os := [] } [True, (AV.p (.c (.v (.bool ((inR x0 0 1000000000000))))) = AV.p (.c (.v (.bool true)))), True, (AV.p (.c (.v (.bool ((inR x1 1 8))))) = AV.p (.c (.v (.bool false))))] gamOK hT h (by kernel_rfl) ⟨trivial, hint_bool (h1), trivial, hint_bool (h2), trivial⟩ fun a w h => then_normal (wp_ret ?_)
   exact at_return (false, ()) [] h (by kernel_rfl) trivial (congrArg (fun z => (z, ())) (show (false) = isFmt x0 x1 x2 from by first | rfl | (unfold isFmt; rw [if_pos h1, if_neg (neT h2)])))
 ·have hvh1 := inR_f h1
  refine at_regq [{}, { hint := some (aB false) }] { ts := [6], os := [] } [True, (AV.p (.c (.v (.bool ((inR x0 0 1000000000000))))) = AV.p (.c (.v (.bool false))))] gamOK hT h (by kernel_rfl) ⟨trivial, hint_bool (h1), trivial⟩ fun a w h => then_normal (wp_ret ?_)
  exact at_return (false, ()) [] h (by kernel_rfl) trivial (congrArg (fun z => (z, ())) (show (false) = isFmt x0 x1 x2 from by first | rfl | (unfold isFmt; rw [if_neg (neT h1)])))
theorem isFmt_t {g s w : Int} (h : isFmt g s w = true) : (0 ≤ g ∧ g ≤ 1000000000000) ∧ (1 ≤ s ∧ s ≤ 8) ∧ (1 ≤ w ∧ w ≤ 16) := by
 unfold isFmt at h
 split at h
 ·split at h
  ·exact ⟨inR_t (by assumption), inR_t (by assumption), inR_t h⟩
  ·cases h
 ·cases h

def S_spec_l14Range : Sum := { fid := 79, dom := [(.int 3), (.int 3), (.int 3)], cod := [(.bool 4)], dp := true, fz := false, pre := fun x => True, g := fun x => ((isFmt x.1 x.2.1 x.2.2.1), ()) }
def S_spec_l14Range_tab : List (Nat × Sum) := [(36, S_spec_l1In)]
theorem S_spec_l14Range_ok : FnOK Tryz.prog 79 S_spec_l14Range := by
 refine at_enter 17 (fun x => ⟨[(0, aI x.1), (1, aI x.2.1), (2, aI x.2.2.1)], []⟩) Tryz.func79 rfl (by kernel_rfl) (fun x => rfl) ?_
 rintro w0 Z0 ⟨x0, x1, x2, u⟩ a w
 revert x0 x1 x2
 intro (x0 : Int) (x1 : Int) (x2 : Int) hpre hlens h
 have hT : TabOK Tryz.prog w0 [] S_spec_l14Range_tab := (.cons S_spec_l1In_ok .nil)
 refine wp_seq ?_
 refine at_regq [] { ts := [0, 1, 2, 6], os := [] } [] gamOK hT h (by kernel_rfl) trivial fun a w h => then_normal (wp_seq ?_)
 rcases Bool.eq_false_or_eq_true ((inR x0 0 1000000000000)) with h1 | h1
 ·have hvh1 := inR_t h1
  rcases Bool.eq_false_or_eq_true ((inR x1 1 8)) with h2 | h2
  ·have hvh2 := inR_t h2
   refine at_regq [{}, { hint := some (aB true) }, {}, {}, { hint := some (aB true) }] { ts := [6], os := [] } [True, (AV.p (.c (.v (.bool ((inR x0 0 1000000000000))))) = AV.p (.c (.v (.bool true)))), True, (AV.p (.c (.v (.bool ((inR x1 1 8))))) = AV.p (.c (.v (.bool true)))), True] gamOK hT h (by kernel_rfl) ⟨trivial, hint_bool (h1), trivial, hint_bool (h2), trivial, trivial⟩ fun a w h => then_normal (wp_ret ?_)
   exact at_return ((inR x2 1 16), ()) [] h (by kernel_rfl) trivial (congrArg (fun z => (z, ())) (show ((inR x2 1 16)) = isFmt x0 x1 x2 from by first | rfl | (unfold isFmt; rw [if_pos h1, if_pos h2]; done) | (unfold isFmt; simp_all)))
  ·have hvh2 := inR_f h2
   refine at_regq [{}, { hint := some (aB true) }, {}, {}, { hint := some (aB false) }] { ts := [6], os := [] } [True, (AV.p (.c (.v (.bool ((inR x0 0 1000000000000))))) = AV.p (.c (.v (.bool true)))), True, (AV.p (.c (.v (.bool ((inR x1 1 8))))) = AV.p (.c (.v (.bool false))))] gamOK hT h (by kernel_rfl) ⟨trivial, hint_bool (h1), trivial, hint_bool (h2), trivial⟩ fun a w h => then_normal (wp_ret ?_)
   exact at_return (false, ()) [] h (by kernel_rfl) trivial (congrArg (fun z => (z, ())) (show (false) = isFmt x0 x1 x2 from by first | rfl | (unfold isFmt; rw [if_pos h1, if_neg (neT h2)]; done) | (unfold isFmt; simp_all)))
 ·have hvh1 := inR_f h1
  refine at_regq [{}, { hint := some (aB false) }] { ts := [6], os := [] } [True, (AV.p (.c (.v (.bool ((inR x0 0 1000000000000))))) = AV.p (.c (.v (.bool false))))] gamOK hT h (by kernel_rfl) ⟨trivial, hint_bool (h1), trivial⟩ fun a w h => then_normal (wp_ret ?_)
  exact at_return (false, ()) [] h (by kernel_rfl) trivial (congrArg (fun z => (z, ())) (show (false) = isFmt x0 x1 x2 from by first | rfl | (unfold isFmt; rw [if_neg (neT h1)]; done) | (unfold isFmt; simp_all)))

def validP (x0 : T36) (x1 : Int) (x2 : Int) : Bool := (if (isFmt x0.1 x1 x2) = true then (if ((List.length x0.2.1 : Nat) : Int) = x1 then (if ((List.length x0.2.2 : Nat) : Int) = x2 then (if (validV x0.2.1) = true then (validV x0.2.2) else false) else false) else false) else false)
abbrev Q_impl_IsValidPacket := (fun (x0 : T36) (x1 : Int) (x2 : Int) => Sh.fit s36 x0)
def S_impl_IsValidPacket : Sum := { fid := 47, dom := [s36, (.int 3), (.int 3)], cod := [(.bool 4)], dp := true, fz := false, pre := fun x => Q_impl_IsValidPacket x.1 x.2.1 x.2.2.1, g := fun x => ((validP x.1 x.2.1 x.2.2.1), ()) }
def S_impl_IsValidPacket_tab : List (Nat × Sum) := [(42, S_impl_isFormat), (66, S_impl_IsValidVector)]
theorem S_impl_IsValidPacket_ok : FnOK Tryz.prog 47 S_impl_IsValidPacket := by
 refine at_enter 36 (fun x => ⟨[(0, aG [cI x.1.1, .ro (.int 3) x.1.2.1, .ro (.int 3) x.1.2.2]), (1, aI x.2.1), (2, aI x.2.2.1)], []⟩) Tryz.func47 rfl (by kernel_rfl) (fun x => rfl) ?_
 rintro w0 Z0 ⟨x0, x1, x2, u⟩ a w
 revert x0 x1 x2
 intro (x0 : T36) (x1 : Int) (x2 : Int) hpre hlens h
 replace hpre : Q_impl_IsValidPacket x0 x1 x2 := hpre
 have hT : TabOK Tryz.prog w0 [] S_impl_IsValidPacket_tab := (.cons S_impl_isFormat_ok (.cons S_impl_IsValidVector_ok .nil))
 have hf0 : Sh.fit s36 x0 := hpre
 have hn0_1 : List.length x0.2.1 ≤ 1073741824 := hf0.2.1.1
 have hn0_2 : List.length x0.2.2 ≤ 1073741824 := hf0.2.2.1
 refine wp_seq ?_
 refine at_regq [{ ids := [1] }] { ts := [1, 2, 3, 6], os := [1] } [] gamOK hT h (by kernel_rfl) trivial fun a w h => then_normal (wp_seq ?_)
 rcases Bool.eq_false_or_eq_true ((isFmt x0.1 x1 x2)) with h1 | h1
 ·have hvh1 := isFmt_t h1
  by_cases h2 : ((List.length x0.2.1 : Nat) : Int) = x1
  ·by_cases h3 : ((List.length x0.2.2 : Nat) : Int) = x2
   ·rcases Bool.eq_false_or_eq_true ((validV x0.2.1)) with h4 | h4
    ·have hvh4 := validV_t h4
     refine at_regq [{}, {}, {}, {}, { hint := some (aB true) }, {}, {}, {}, {}, {}, { hint := some (aB true) }, {}, {}, {}, {}, {}, {}, { hint := some (aB true) }, {}, {}, {}, {}, { hint := some (aB true) }] { ts := [6], os := [] } [True, (AV.p (.c (.v (.bool ((isFmt x0.1 x1 x2))))) = AV.p (.c (.v (.bool true)))), (AV.p (.c (.v (.bool (decide (((List.length x0.2.1 : Nat) : Int) = x1))))) = AV.p (.c (.v (.bool true)))), (AV.p (.c (.v (.bool (decide (((List.length x0.2.2 : Nat) : Int) = x2))))) = AV.p (.c (.v (.bool true)))), Q_impl_IsValidVector x0.2.1, (AV.p (.c (.v (.bool ((validV x0.2.1))))) = AV.p (.c (.v (.bool true)))), Q_impl_IsValidVector x0.2.2] gamOK hT h (by kernel_rfl) ⟨trivial, hint_bool (h1), hint_bool (decide_eq_true h2), hint_bool (decide_eq_true h3), (by exact hf0.2.1), hint_bool (h4), (by exact hf0.2.2), trivial⟩ fun a w h => then_normal (wp_ret ?_)
     exact at_return ((validV x0.2.2), ()) [] h (by kernel_rfl) trivial (congrArg (fun z => (z, ())) (show ((validV x0.2.2)) = validP x0 x1 x2 from by first | rfl | (unfold validP; rw [if_pos h1, if_pos h2, if_pos h3, if_pos h4])))
    ·refine at_regq [{}, {}, {}, {}, { hint := some (aB true) }, {}, {}, {}, {}, {}, { hint := some (aB true) }, {}, {}, {}, {}, {}, {}, { hint := some (aB true) }, {}, {}, {}, {}, { hint := some (aB false) }] { ts := [6], os := [] } [True, (AV.p (.c (.v (.bool ((isFmt x0.1 x1 x2))))) = AV.p (.c (.v (.bool true)))), (AV.p (.c (.v (.bool (decide (((List.length x0.2.1 : Nat) : Int) = x1))))) = AV.p (.c (.v (.bool true)))), (AV.p (.c (.v (.bool (decide (((List.length x0.2.2 : Nat) : Int) = x2))))) = AV.p (.c (.v (.bool true)))), Q_impl_IsValidVector x0.2.1, (AV.p (.c (.v (.bool ((validV x0.2.1))))) = AV.p (.c (.v (.bool false))))] gamOK hT h (by kernel_rfl) ⟨trivial, hint_bool (h1), hint_bool (decide_eq_true h2), hint_bool (decide_eq_true h3), (by exact hf0.2.1), hint_bool (h4), trivial⟩ fun a w h => then_normal (wp_ret ?_)
     exact at_return (false, ()) [] h (by kernel_rfl) trivial (congrArg (fun z => (z, ())) (show (false) = validP x0 x1 x2 from by first | rfl | (unfold validP; rw [if_pos h1, if_pos h2, if_pos h3, if_neg (neT h4)])))
   ·refine at_regq [{}, {}, {}, {}, { hint := some (aB true) }, {}, {}, {}, {}, {}, { hint := some (aB true) }, {}, {}, {}, {}, {}, {}, { hint := some (aB false) }] { ts := [6], os := [] } [True, (AV.p (.c (.v (.bool ((isFmt x0.1 x1 x2))))) = AV.p (.c (.v (.bool true)))), (AV.p (.c (.v (.bool (decide (((List.length x0.2.1 : Nat) : Int) = x1))))) = AV.p (.c (.v (.bool true)))), (AV.p (.c (.v (.bool (decide (((List.length x0.2.2 : Nat) : Int) = x2))))) = AV.p (.c (.v (.bool false))))] gamOK hT h (by kernel_rfl) ⟨trivial, hint_bool (h1), hint_bool (decide_eq_true h2), hint_bool (decide_eq_false h3), trivial⟩ fun a w h => then_normal (wp_ret ?_)
    exact at_return (false, ()) [] h (by kernel_rfl) trivial (congrArg (fun z => (z, ())) (show (false) = validP x0 x1 x2 from by first | rfl | (unfold validP; rw [if_pos h1, if_pos h2, if_neg h3])))
  ·refine at_regq [{}, {}, {}, {}, { hint := some (aB true) }, {}, {}, {}, {}, {}, { hint := some (aB false) }] { ts := [6], os := [] } [True, (AV.p (.c (.v (.bool ((isFmt x0.1 x1 x2))))) = AV.p (.c (.v (.bool true)))), (AV.p (.c (.v (.bool (decide (((List.length x0.2.1 : Nat) : Int) = x1))))) = AV.p (.c (.v (.bool false))))] gamOK hT h (by kernel_rfl) ⟨trivial, hint_bool (h1), hint_bool (decide_eq_false h2), trivial⟩ fun a w h => then_normal (wp_ret ?_)
   exact at_return (false, ()) [] h (by kernel_rfl) trivial (congrArg (fun z => (z, ())) (show (false) = validP x0 x1 x2 from by first | rfl | (unfold validP; rw [if_pos h1, if_neg h2])))
 ·refine at_regq [{}, {}, {}, {}, { hint := some (aB false) }] { ts := [6], os := [] } [True, (AV.p (.c (.v (.bool ((isFmt x0.1 x1 x2))))) = AV.p (.c (.v (.bool false))))] gamOK hT h (by kernel_rfl) ⟨trivial, hint_bool (h1), trivial⟩ fun a w h => then_normal (wp_ret ?_)
  exact at_return (false, ()) [] h (by kernel_rfl) trivial (congrArg (fun z => (z, ())) (show (false) = validP x0 x1 x2 from by first | rfl | (unfold validP; rw [if_neg (neT h1)])))
theorem validP_t {p : T36} {s w : Int} (h : validP p s w = true) : isFmt p.1 s w = true ∧ ((List.length p.2.1 : Nat) : Int) = s ∧ ((List.length p.2.2 : Nat) : Int) = w ∧ validV p.2.1 = true ∧ validV p.2.2 = true := by
 unfold validP at h
 (repeat' split at h) <;> first | (cases h; done) | (refine ⟨?_, by assumption, by assumption, by assumption, h⟩; first | assumption | (unfold isFmt; simp_all))
theorem validP_n {p : T36} {s w : Int} (h : validP p s w = true) : ((0 ≤ p.1 ∧ p.1 ≤ 1000000000000) ∧ (1 ≤ s ∧ s ≤ 8) ∧ (1 ≤ w ∧ w ≤ 16)) ∧ ((List.length p.2.1 : Nat) : Int) = s ∧ ((List.length p.2.2 : Nat) : Int) = w := ⟨isFmt_t (validP_t h).1, (validP_t h).2.1, (validP_t h).2.2.1⟩
theorem validP_of {p : T36} {s w : Int} (h : isFmt p.1 s w = true ∧ ((List.length p.2.1 : Nat) : Int) = s ∧ ((List.length p.2.2 : Nat) : Int) = w ∧ validV p.2.1 = true ∧ validV p.2.2 = true) : validP p s w = true := by
 obtain ⟨h1, h2, h3, h4, h5⟩ := h
 unfold validP
 first | (rw [if_pos h1, if_pos h2, if_pos h3, if_pos h4]; exact h5) | (unfold isFmt at h1; simp_all)

def D_impl_IsValidManifest_1 := (fun e => !isGrp e)
def S_impl_IsValidManifest_1 : Sum := { fid := 44, dom := [(.int 3)], cod := [(.bool 4)], dp := true, fz := false, pre := fun x => True, g := fun x => ((D_impl_IsValidManifest_1 x.1), ()) }
def S_impl_IsValidManifest_1_tab : List (Nat × Sum) := [(45, S_impl_IsGroupElement)]
theorem S_impl_IsValidManifest_1_ok : FnOK Tryz.prog 44 S_impl_IsValidManifest_1 := by
 refine at_enter 6 (fun x => ⟨[(0, aI x.1)], []⟩) Tryz.func44 rfl (by kernel_rfl) (fun x => rfl) ?_
 rintro w0 Z0 ⟨x0, u⟩ a w
 revert x0
 intro (x0 : Int) hpre hlens h
 have hT : TabOK Tryz.prog w0 [] S_impl_IsValidManifest_1_tab := (.cons S_impl_IsGroupElement_ok .nil)
 refine wp_seq ?_
 refine at_regq [] { ts := [0, 2], os := [] } [] gamOK hT h (by kernel_rfl) trivial fun a w h => then_normal (wp_seq ?_)
 refine at_regq [] { ts := [2], os := [] } [True] gamOK hT h (by kernel_rfl) ⟨trivial, trivial⟩ fun a w h => then_normal (wp_ret ?_)
 exact at_return (!(isGrp x0), ()) [] h (by kernel_rfl) trivial (congrArg (fun z => (z, ())) (show (!(isGrp x0)) = D_impl_IsValidManifest_1 x0 from by unfold D_impl_IsValidManifest_1; rfl))

def D_slices_IndexFunc_S_int_int__IsValidManifest_1 := (fun (xs : List Int) (cap : Unit) => idxF (fun e => !isGrp e) xs)
def S_slices_IndexFunc_S_int_int__IsValidManifest_1 : Sum := { fid := 64, dom := [s27, (.fn0 44)], cod := [(.int 3)], dp := true, fz := false, pre := fun x => True, g := fun x => ((D_slices_IndexFunc_S_int_int__IsValidManifest_1 x.1 x.2.1), ()) }
def S_slices_IndexFunc_S_int_int__IsValidManifest_1_tab : List (Nat × Sum) := [(44, S_impl_IsValidManifest_1)]
theorem S_slices_IndexFunc_S_int_int__IsValidManifest_1_ok : FnOK Tryz.prog 64 S_slices_IndexFunc_S_int_int__IsValidManifest_1 := by
 refine at_enter 19 (fun x => ⟨[(0, aF (.int 3) x.1), (1, .p (.c (.cl 44 .cnil)))], []⟩) Tryz.func64 rfl (by kernel_rfl) (fun x => rfl) ?_
 rintro w0 Z0 ⟨x0, x1, u⟩ a w
 revert x0 x1
 intro (x0 : (List Int)) (x1 : Unit) hpre hlens h
 have hl1 : List.length x0 ≤ 9223372036854775807 := hlens.1.1
 have hT : TabOK Tryz.prog w0 [] S_slices_IndexFunc_S_int_int__IsValidManifest_1_tab := (.cons S_impl_IsValidManifest_1_ok .nil)
 refine wp_seq ?_
 refine at_regq [] { ts := [0, 1, 4], os := [] } [] gamOK hT h (by kernel_rfl) trivial fun a w h => then_normal (wp_seq (wp_seq ?_))
 refine at_regq [] { ts := [0, 1, 4, 7, 8], os := [] } [] gamOK hT h (by kernel_rfl) trivial fun a w h => then_normal (wp_block ?_)
 replace h := at_out (σ' := ⟨[(0, aF (.int 3) x0), (1, .p (.c (.cl 44 .cnil))), (4, aI 0), (7, aI ((List.length x0 : Nat) : Int)), (8, aI 0)], []⟩) { ts := [0, 1, 4, 7, 8], os := [] } h (by kernel_rfl)
 refine at_loop (fun i : Nat => (⟨[(0, aF (.int 3) x0), (1, .p (.c (.cl 44 .cnil))), (4, aI 0), (7, aI ((List.length x0 : Nat) : Int)), (8, aI ((i : Nat) : Int))], []⟩ : St)) (fun i => (i ≤ List.length x0 ∧ noneTo (fun e => !isGrp e) x0 0 i)) (fun i => List.length x0 - i) (0) h (st_congr1 (fun (d0 : Int) => (⟨[(0, aF (.int 3) x0), (1, .p (.c (.cl 44 .cnil))), (4, aI 0), (7, aI ((List.length x0 : Nat) : Int)), (8, aI d0)], []⟩ : St)) (show (0 : Int) = (((0) : Nat) : Int) from by first | with_reducible rfl | (rfl) | rfl)) (by exact ⟨Nat.zero_le _, noneTo_zero⟩) ?_
 intro i a w hok0 h
 refine wp_seq ?_
 refine at_regq [] { ts := [0, 1, 4, 7, 8, 9], os := [] } [] gamOK hT h (by kernel_rfl) trivial fun a w h => then_normal (wp_seq ?_)
 refine at_test (decide (((i : Nat) : Int) < ((List.length x0 : Nat) : Int))) h (by kernel_rfl) (fun h1 => ?_) (fun h1 => ?_)
 ·replace h1 : ((i : Nat) : Int) < ((List.length x0 : Nat) : Int) := of_decide_eq_true h1
  refine wp_skip (then_normal (wp_seq (wp_block (wp_seq ?_))))
  refine at_regq [] { ts := [0, 1, 4, 5, 7, 8], os := [] } [] gamOK hT h (by kernel_rfl) trivial fun a w h => then_normal (wp_seq ?_)
  refine at_regq [] { ts := [0, 1, 4, 5, 7, 8, 16], os := [] } [(0 : Int) ≤ ((i : Nat) : Int) ∧ ((i : Nat) : Int) < ((List.length x0 : Nat) : Int), True] gamOK hT h (by kernel_rfl) ⟨(by refine ⟨?_, ?_⟩ <;> (first | omega | (simp only [lsA]; omega) | (simp <;> omega))), trivial, trivial⟩ fun a w h => then_normal ?_
  refine at_test ((D_impl_IsValidManifest_1 (x0.getD i 0))) h (by kernel_rfl) (fun h2 => ?_) (fun h2 => ?_)
  ·refine wp_seq ?_
   refine at_regq [] { ts := [0, 1, 4, 7, 8], os := [] } [] gamOK hT h (by kernel_rfl) trivial fun a w h => then_normal (wp_ret (in_ret (then_ret (then_ret (in_ret (then_ret ?_))))))
   exact at_return (((i : Nat) : Int), ()) [] h (by kernel_rfl) trivial (congrArg (fun z => (z, ())) (show (((i : Nat) : Int)) = D_slices_IndexFunc_S_int_int__IsValidManifest_1 x0 x1 from by unfold D_slices_IndexFunc_S_int_int__IsValidManifest_1; exact (idxF_at (z := 0) (by omega) hok0.2 h2).symm))
  ·refine wp_skip (in_normal (then_normal ?_))
   refine at_regq [{ nw := true }] { ts := [0, 1, 4, 7, 8], os := [] } [I64 (((i : Nat) : Int) + 1)] gamOK hT h (by kernel_rfl) ⟨⟨by first | omega | (simp only [lsA]; omega) | (simp <;> omega), by first | omega | (simp only [lsA]; omega) | (simp <;> omega)⟩, trivial⟩ fun a w h => ?_
   replace h := at_out (σ' := ⟨[(0, aF (.int 3) x0), (1, .p (.c (.cl 44 .cnil))), (4, aI 0), (7, aI ((List.length x0 : Nat) : Int)), (8, aI (((i : Nat) : Int) + 1))], []⟩) { ts := [0, 1, 4, 7, 8], os := [] } h (by kernel_rfl)
   exact ⟨i + 1, at_eq h (st_congr1 (fun (d0 : Int) => (⟨[(0, aF (.int 3) x0), (1, .p (.c (.cl 44 .cnil))), (4, aI 0), (7, aI ((List.length x0 : Nat) : Int)), (8, aI d0)], []⟩ : St)) (show (((i : Nat) : Int) + 1 : Int) = (((i + 1) : Nat) : Int) from by first | with_reducible rfl | (omega) | rfl)), (by exact ⟨by omega, noneTo_succ hok0.2 h2⟩), (by omega)⟩
 ·replace h1 : ¬ (((i : Nat) : Int) < ((List.length x0 : Nat) : Int)) := of_decide_eq_false h1
  refine wp_exit (then_exit (then_exit (in_hit (then_normal (wp_seq ?_)))))
  refine at_regq [] { ts := [4], os := [] } [] gamOK hT h (by kernel_rfl) trivial fun a w h => then_normal (wp_ret ?_)
  exact at_return ((-1), ()) [] h (by kernel_rfl) trivial (congrArg (fun z => (z, ())) (show ((-1)) = D_slices_IndexFunc_S_int_int__IsValidManifest_1 x0 x1 from by unfold D_slices_IndexFunc_S_int_int__IsValidManifest_1; exact (idxF_none (z := 0) (by omega) hok0.2).symm))

def D_slices_ContainsFunc_S_int_int__IsValidManifest_1 := (fun (xs : List Int) (cap : Unit) => xs.any fun e => !isGrp e)
def S_slices_ContainsFunc_S_int_int__IsValidManifest_1 : Sum := { fid := 43, dom := [s27, (.fn0 44)], cod := [(.bool 4)], dp := true, fz := false, pre := fun x => True, g := fun x => ((D_slices_ContainsFunc_S_int_int__IsValidManifest_1 x.1 x.2.1), ()) }
def S_slices_ContainsFunc_S_int_int__IsValidManifest_1_tab : List (Nat × Sum) := [(100002, S_slices_IndexFunc_S_int_int__IsValidManifest_1)]
theorem S_slices_ContainsFunc_S_int_int__IsValidManifest_1_ok : FnOK Tryz.prog 43 S_slices_ContainsFunc_S_int_int__IsValidManifest_1 := by
 refine at_enter 9 (fun x => ⟨[(0, aF (.int 3) x.1), (1, .p (.c (.cl 44 .cnil)))], []⟩) Tryz.func43 rfl (by kernel_rfl) (fun x => rfl) ?_
 rintro w0 Z0 ⟨x0, x1, u⟩ a w
 revert x0 x1
 intro (x0 : (List Int)) (x1 : Unit) hpre hlens h
 have hl1 : List.length x0 ≤ 9223372036854775807 := hlens.1.1
 have hT : TabOK Tryz.prog w0 [] S_slices_ContainsFunc_S_int_int__IsValidManifest_1_tab := (.cons S_slices_IndexFunc_S_int_int__IsValidManifest_1_ok .nil)
 refine wp_seq ?_
 refine at_regq [] { ts := [0, 1, 4], os := [] } [] gamOK hT h (by kernel_rfl) trivial fun a w h => then_normal (wp_seq ?_)
 refine at_regq [{}, {}, { key := some 100002 }] { ts := [4], os := [] } [True] gamOK hT h (by kernel_rfl) ⟨trivial, trivial⟩ fun a w h => then_normal (wp_ret ?_)
 exact at_return (decide ((D_slices_IndexFunc_S_int_int__IsValidManifest_1 x0 ()) ≥ 0), ()) [] h (by kernel_rfl) trivial (congrArg (fun z => (z, ())) (show (decide ((D_slices_IndexFunc_S_int_int__IsValidManifest_1 x0 ()) ≥ 0)) = D_slices_ContainsFunc_S_int_int__IsValidManifest_1 x0 x1 from by unfold D_slices_ContainsFunc_S_int_int__IsValidManifest_1; exact idxF_any))

end Go.Proofs.YtekgoacohhdijaaGreat

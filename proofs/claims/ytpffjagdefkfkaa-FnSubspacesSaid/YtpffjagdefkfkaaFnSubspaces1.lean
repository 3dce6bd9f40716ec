/- The walks of the functions that the law reaches: each summary holds. No condition. -/
import Derived.Test.YtpffjagdefkfkaaPU
import Derived.Test.YtpffjagdefkfkaaLA
import Derived.Test.YtpffjagdefkfkaaProg
namespace Go.Proofs.Ytpffjagdefkfkaa
open Go.RowKit
set_option linter.unusedVariables false
set_option linter.unusedSimpArgs false
abbrev s27 : Sh := .sl 27 (.int 3)
abbrev s24 : Sh := .sl 24 s27
abbrev s60 : Sh := .st 60 (.pair (.int 3) s24)
abbrev T60 : Type := (Int × (List (List Int)))
abbrev s22 : Sh := .sl 22 (.u8 5)
abbrev s109 : Sh := .st 109 (.pair s22 (.pair (.int 3) (.int 3)))
abbrev T109 : Type := ((List Int) × (Int × Int))
def gam : Gam := [(27, (.int 3), 8), (24, s27, 24)]
theorem gamOK : GamOK Try.prog gam := (.cons (Elem.of (.int .i64 0) Try.underlying27 (by kernel_rfl) rfl (by decide) (by decide)) (.cons (Elem.of (.slice none 0 0) Try.underlying24 (by kernel_rfl) rfl (by decide) (by decide)) .nil))
theorem mixed : Try.prog.follows .mixedOrders = true := by kernel_rfl
theorem lsA {α : Type} : (∀ xs ys : List α, (xs ++ ys).length = xs.length + ys.length) ∧ (∀ (x : α) (xs : List α), (x :: xs).length = xs.length + 1) ∧ (([] : List α).length = 0) ∧ (∀ (xs : List α) (i : Nat) (a : α), (xs.set i a).length = xs.length) ∧ (∀ (xs : List α) (n : Nat), (xs.take n).length = min n xs.length) ∧ (∀ (xs : List α) (n : Nat), (xs.drop n).length = xs.length - n) ∧ (∀ (n : Nat) (a : α), (List.replicate n a).length = n) := ⟨fun _ _ => List.length_append, fun _ _ => rfl, rfl, fun _ _ _ => List.length_set, fun _ _ => List.length_take, fun _ _ => List.length_drop, fun _ _ => List.length_replicate⟩
def inR (n lo hi : Int) : Bool := decide (lo ≤ n ∧ n ≤ hi)
theorem inR_t {n a b : Int} (h : inR n a b = true) : a ≤ n ∧ n ≤ b := of_decide_eq_true h
theorem inR_f {n a b : Int} (h : inR n a b = false) : n < a ∨ b < n := by have := of_decide_eq_false h; omega
theorem inR_true {n a b : Int} (h : a ≤ n ∧ n ≤ b) : inR n a b = true := decide_eq_true h
def lenOK {α : Type} (xs : List α) : Prop := xs.length ≤ 1073741824
def idL {α : Type} (xs : List α) : List α := xs
def u8L (xs : List Int) : Prop := ∀ e : Int, List.Mem e xs → (0 : Int) ≤ e ∧ e < (256 : Int)
theorem getD_u8 {xs : List Int} (h : u8L xs) (i : Nat) : (0 : Int) ≤ xs.getD i 0 ∧ xs.getD i 0 < (256 : Int) := by
 by_cases l : i < xs.length
 ·rw [List.getD_eq_getElem?_getD, List.getElem?_eq_getElem l]; exact h _ (List.getElem_mem l)
 ·rw [List.getD_eq_getElem?_getD, List.getElem?_eq_none (by omega)]; constructor <;> decide
section
variable {α β : Type}
def noneTo (p : α → Bool) (xs : List α) (z : α) (i : Nat) : Prop := ∀ j, j < i → p (xs.getD j z) = false
def idxF (p : α → Bool) : List α → Int
 | [] => -1
 | x :: l => if p x = true then 0 else if idxF p l < 0 then -1 else idxF p l + 1
theorem noneTo_zero {p : α → Bool} {xs : List α} {z : α} : noneTo p xs z 0 := fun j h => by omega
theorem noneTo_succ {p : α → Bool} {xs : List α} {z : α} {i : Nat} (h : noneTo p xs z i) (k : p (xs.getD i z) = false) : noneTo p xs z (i + 1) := fun j hj => by
 by_cases e : j = i
 ·subst e; exact k
 ·exact h j (by omega)
theorem idxF_at {p : α → Bool} {z : α} : ∀ {xs : List α} {i : Nat}, i < xs.length → noneTo p xs z i → p (xs.getD i z) = true → idxF p xs = i
 | [], _, h, _, _ => by simp at h
 | x :: l, 0, _, _, k => by
  have k : p x = true := k
  simp [idxF, k]
 | x :: l, i + 1, h, hn, k => by
  have h0 : p x = false := hn 0 (by omega)
  have := idxF_at (xs := l) (i := i) (by simpa using h) (fun j hj => by have := hn (j + 1) (by omega); simpa using this) (by simpa using k)
  simp only [idxF, h0, this]
  rw [if_neg (by decide), if_neg (by omega)]
  omega
theorem idxF_none {p : α → Bool} {z : α} : ∀ {xs : List α} {i : Nat}, xs.length ≤ i → noneTo p xs z i → idxF p xs = -1
 | [], _, _, _ => rfl
 | x :: l, 0, h, _ => by simp at h
 | x :: l, i + 1, h, hn => by
  have h0 : p x = false := hn 0 (by omega)
  have := idxF_none (xs := l) (i := i) (by simpa using h) (fun j hj => by have := hn (j + 1) (by omega); simpa using this)
  simp [idxF, h0, this]
theorem idxF_pos {p : α → Bool} : ∀ {xs : List α}, 0 ≤ idxF p xs ↔ xs.any p = true
 | [] => by simp [idxF]
 | x :: l => by
  have := idxF_pos (xs := l) (p := p)
  simp only [idxF, List.any_cons, Bool.or_eq_true, ← this]
  by_cases hx : p x = true
  ·simp [hx]
  ·rw [if_neg hx]
   split
   ·rename_i h; constructor
    ·intro h'; omega
    ·rintro (h' | h')
     ·exact absurd h' hx
     ·omega
   ·rename_i h; constructor
    ·intro h'; right; omega
    ·intro _; omega
theorem idxF_any {p : α → Bool} {xs : List α} : decide (idxF p xs ≥ 0) = xs.any p := by
 rw [Bool.eq_iff_iff, decide_eq_true_iff]; exact idxF_pos
def allTo2 (e : α → β → Bool) (xs : List α) (ys : List β) (z : α) (y : β) (i : Nat) : Prop := ∀ j, j < i → e (xs.getD j z) (ys.getD j y) = true
def eqF (e : α → β → Bool) : List α → List β → Bool
 | [], [] => true
 | x :: l, y :: l' => e x y && eqF e l l'
 | _, _ => false
theorem allTo2_zero {e : α → β → Bool} {xs : List α} {ys : List β} {z : α} {y : β} : allTo2 e xs ys z y 0 := fun j h => by omega
theorem allTo2_succ {e : α → β → Bool} {xs : List α} {ys : List β} {z : α} {y : β} {i : Nat} (h : allTo2 e xs ys z y i) (k : e (xs.getD i z) (ys.getD i y) = true) : allTo2 e xs ys z y (i + 1) := fun j hj => by
 by_cases e : j = i
 ·subst e; exact k
 ·exact h j (by omega)
theorem eqF_len {e : α → β → Bool} : ∀ {xs : List α} {ys : List β}, xs.length ≠ ys.length → eqF e xs ys = false
 | [], [], h => absurd rfl h
 | [], _ :: _, _ => rfl
 | _ :: _, [], _ => rfl
 | _ :: l, _ :: l', h => by simp only [eqF]; rw [eqF_len (xs := l) (ys := l') (by simpa using h), Bool.and_false]
theorem eqF_at {e : α → β → Bool} {z : α} {y : β} : ∀ {xs : List α} {ys : List β} {i : Nat}, i < xs.length → i < ys.length → e (xs.getD i z) (ys.getD i y) = false → eqF e xs ys = false
 | x :: l, y' :: l', 0, _, _, h => by
  have h : e x y' = false := h
  simp [eqF, h]
 | x :: l, y' :: l', i + 1, h1, h2, h => by simp only [eqF]; rw [eqF_at (xs := l) (ys := l') (i := i) (by simpa using h1) (by simpa using h2) (by simpa using h), Bool.and_false]
 | [], _, _, h1, _, _ => by simp at h1
 | _ :: _, [], _, _, h2, _ => by simp at h2
theorem eqF_all {e : α → β → Bool} {z : α} {y : β} : ∀ {xs : List α} {ys : List β} {i : Nat}, xs.length = ys.length → xs.length ≤ i → allTo2 e xs ys z y i → eqF e xs ys = true
 | [], [], _, _, _, _ => rfl
 | [], _ :: _, _, h, _, _ => by simp at h
 | _ :: _, [], _, h, _, _ => by simp at h
 | x :: l, y' :: l', 0, _, h, _ => by simp at h
 | x :: l, y' :: l', i + 1, h, hi, ha => by
  have h0 : e x y' = true := ha 0 (by omega)
  simp only [eqF]
  rw [h0, eqF_all (xs := l) (ys := l') (i := i) (by simpa using h) (by simpa using hi) (fun j hj => by have := ha (j + 1) (by omega); simpa using this)]
  rfl
def allTo1 (p : α → Bool) (xs : List α) (z : α) (i : Nat) : Prop := ∀ j, j < i → p (xs.getD j z) = true
theorem allTo1_zero {p : α → Bool} {xs : List α} {z : α} : allTo1 p xs z 0 := fun j h => by omega
theorem allTo1_succ {p : α → Bool} {xs : List α} {z : α} {i : Nat} (h : allTo1 p xs z i) (k : p (xs.getD i z) = true) : allTo1 p xs z (i + 1) := fun j hj => by
 by_cases e : j = i
 ·subst e; exact k
 ·exact h j (by omega)
theorem all_at {p : α → Bool} {xs : List α} {z : α} {i : Nat} (h : i < xs.length) (k : p (xs.getD i z) = false) : xs.all p = false := by
 rw [Bool.eq_false_iff]; intro ha
 have := List.all_eq_true.1 ha _ (getD_mem (z := z) h)
 rw [k] at this; cases this
theorem all_of {p : α → Bool} {xs : List α} {z : α} {i : Nat} (h : xs.length ≤ i) (k : allTo1 p xs z i) : xs.all p = true := by
 rw [List.all_eq_true]; intro x hx
 obtain ⟨j, hj, rfl⟩ := List.getElem_of_mem hx
 have := k j (by omega)
 rwa [getD_of_lt hj] at this
def foldTo (f : β → α → β) (b : β) (xs : List α) (i : Nat) : β := (xs.take i).foldl f b
theorem foldTo_zero {f : β → α → β} {b : β} {xs : List α} : foldTo f b xs 0 = b := rfl
theorem foldTo_succ {f : β → α → β} {b : β} {xs : List α} {i : Nat} (z : α) (h : i < xs.length) : foldTo f b xs (i + 1) = f (foldTo f b xs i) (xs.getD i z) := by
 unfold foldTo; rw [take_snoc (z := z) h, List.foldl_append]; rfl
theorem foldTo_all {f : β → α → β} {b : β} {xs : List α} {i : Nat} (h : xs.length ≤ i) : foldTo f b xs i = xs.foldl f b := by unfold foldTo; rw [take_all h]
end
theorem beqT {a b : Bool} (h : a = b) : (a == b) = true := by subst h; simp
theorem notF' {b : Bool} (h : b = false) : (!b) = true := by rw [h]; rfl
theorem notT' {b : Bool} (h : b = true) : (!b) = false := by rw [h]; rfl
section
variable {α β : Type}
theorem any_at {p : α → Bool} {xs : List α} {z : α} {i : Nat} (h : i < xs.length) (k : p (xs.getD i z) = true) : xs.any p = true := List.any_eq_true.2 ⟨_, getD_mem h, k⟩
theorem any_of {p : α → Bool} {xs : List α} {z : α} {i : Nat} (h : xs.length ≤ i) (k : noneTo p xs z i) : xs.any p = false := by
 rw [Bool.eq_false_iff]; intro ha
 obtain ⟨x, hx, hp⟩ := List.any_eq_true.1 ha
 obtain ⟨j, hj, rfl⟩ := List.getElem_of_mem hx
 have := k j (by omega)
 rw [getD_of_lt hj, hp] at this; cases this
def allN (P : Nat → Bool) : Nat → Bool
 | 0 => true
 | n + 1 => allN P n && P n
theorem allN_succ {P : Nat → Bool} {i : Nat} (h : allN P i = true) (k : P i = true) : allN P (i + 1) = true := by simp [allN, h, k]
theorem allN_iff {P : Nat → Bool} : ∀ {n : Nat}, allN P n = true ↔ ∀ j, j < n → P j = true
 | 0 => by simp [allN]
 | n + 1 => by
  simp only [allN, Bool.and_eq_true, allN_iff (n := n)]
  constructor
  ·rintro ⟨h1, h2⟩ j hj
   by_cases e : j = n
   ·rw [e]; exact h2
   ·exact h1 j (by omega)
  ·intro h; exact ⟨fun j hj => h j (by omega), h n (by omega)⟩
theorem allN_eq {P : Nat → Bool} {i n : Nat} (h : n ≤ i) (h' : i ≤ n) (k : allN P i = true) : allN P n = true := by rw [show n = i by omega]; exact k
theorem allN_at {P : Nat → Bool} {i n : Nat} (h : i < n) (k : P i = false) : allN P n = false := by
 rw [Bool.eq_false_iff]; intro ha
 rw [allN_iff.1 ha i h] at k; cases k
theorem map_snoc {f : α → β} {xs : List α} {i : Nat} {z : α} (h : i < xs.length) : (xs.take (i + 1)).map f = (xs.take i).map f ++ [f (xs.getD i z)] := by rw [take_snoc (z := z) h, List.map_append]; rfl
theorem filter_snoc_t {p : α → Bool} {xs : List α} {i : Nat} {z : α} (h : i < xs.length) (k : p (xs.getD i z) = true) : (xs.take (i + 1)).filter p = (xs.take i).filter p ++ [xs.getD i z] := by rw [take_snoc (z := z) h, List.filter_append, List.filter_cons_of_pos k]; rfl
theorem filter_snoc_f {p : α → Bool} {xs : List α} {i : Nat} {z : α} (h : i < xs.length) (k : p (xs.getD i z) = false) : (xs.take (i + 1)).filter p = (xs.take i).filter p := by rw [take_snoc (z := z) h, List.filter_append, List.filter_cons_of_neg (by rw [k]; decide)]; simp
theorem len_filter_take {p : α → Bool} {xs : List α} (i : Nat) : ((xs.take i).filter p).length ≤ xs.length := Nat.le_trans (List.length_filter_le _ _) (by simp; omega)
theorem len_take_le {xs : List α} (i : Nat) : (xs.take i).length ≤ xs.length := by simp; omega
end
def S_slices_Clone_S_int_int_ : Sum := { fid := 109, dom := [s27], cod := [s27], dp := true, fz := false, pre := fun x => (lenOK (α := Int)) x.1, g := fun x => (((idL (α := Int)) x.1), ()) }
def S_slices_Clone_S_int_int__tab : List (Nat × Sum) := []
theorem S_slices_Clone_S_int_int__ok : FnOK Try.prog 109 S_slices_Clone_S_int_int_ := by
 refine at_enter 8 (fun x => ⟨[(0, aF (.int 3) x.1)], []⟩) Try.func109 rfl (by kernel_rfl) (fun x => rfl) ?_
 rintro w0 Z0 ⟨x0, u⟩ a w
 revert x0
 intro (x0 : (List Int)) hpre hlens h
 replace hpre : (lenOK (α := Int)) x0 := hpre
 have hl1 : List.length x0 ≤ 9223372036854775807 := hlens.1.1
 have hT : TabOK Try.prog S_slices_Clone_S_int_int__tab := .nil
 have hp : List.length x0 ≤ 1073741824 := hpre
 refine wp_seq ?_
 refine at_regq [] { ts := [0, 2], os := [] } [] gamOK hT h (by kernel_rfl) trivial fun a w h => then_normal (wp_seq (wp_seq ?_))
 refine at_regq [] { ts := [0, 2, 4], os := [] } [] gamOK hT h (by kernel_rfl) trivial fun a w h => then_normal ?_
 refine at_nil (List.length x0) h (by kernel_rfl) (fun h1 => ?_) ?_
 ·refine wp_seq ?_
  refine at_regq [] { ts := [0, 2], os := [] } [] gamOK hT h (by kernel_rfl) trivial fun a w h => then_normal (wp_ret (then_ret ?_))
  exact at_return (([] : List Int), ()) [] h (by kernel_rfl) trivial (congrArg (fun z => (z, ())) (show (([] : List Int)) = (idL (α := Int)) x0 from by (show [] = x0; exact (List.eq_nil_of_length_eq_zero h1).symm)))
 ·refine wp_skip (then_normal (wp_seq ?_))
  refine at_regq [{ ids := [1] }, {}, { ids := [2] }] { ts := [2], os := [2] } [(List.length ([] : List Int) + List.length x0) * 8 ≤ 140737488355328] gamOK hT h (by kernel_rfl) ⟨(by first | omega | (simp only [lsA]; omega) | (simp <;> omega)), trivial⟩ fun a w h => then_normal (wp_ret ?_)
  exact at_return ((([] : List Int) ++ x0), ()) [] h (by kernel_rfl) trivial (congrArg (fun z => (z, ())) (show ((([] : List Int) ++ x0)) = (idL (α := Int)) x0 from by (show [] ++ x0 = x0; rfl)))

def S_slices_Equal_S_int_int_ : Sum := { fid := 64, dom := [s27, s27], cod := [(.bool 4)], dp := true, fz := false, pre := fun x => True, g := fun x => (((Sh.eqB s27) x.1 x.2.1), ()) }
def S_slices_Equal_S_int_int__tab : List (Nat × Sum) := []
theorem S_slices_Equal_S_int_int__ok : FnOK Try.prog 64 S_slices_Equal_S_int_int_ := by
 refine at_enter 26 (fun x => ⟨[(0, aF (.int 3) x.1), (1, aF (.int 3) x.2.1)], []⟩) Try.func64 rfl (by kernel_rfl) (fun x => rfl) ?_
 rintro w0 Z0 ⟨x0, x1, u⟩ a w
 revert x0 x1
 intro (x0 : (List Int)) (x1 : (List Int)) hpre hlens h
 have hl1 : List.length x0 ≤ 9223372036854775807 := hlens.1.1
 have hl2 : List.length x1 ≤ 9223372036854775807 := hlens.2.1.1
 have hT : TabOK Try.prog S_slices_Equal_S_int_int__tab := .nil
 refine wp_seq ?_
 refine at_regq [] { ts := [0, 1, 4], os := [] } [] gamOK hT h (by kernel_rfl) trivial fun a w h => then_normal (wp_seq (wp_seq ?_))
 refine at_regq [] { ts := [0, 1, 4, 10], os := [] } [] gamOK hT h (by kernel_rfl) trivial fun a w h => then_normal ?_
 refine at_test (!decide (((List.length x0 : Nat) : Int) = ((List.length x1 : Nat) : Int))) h (by kernel_rfl) (fun h1 => ?_) (fun h1 => ?_)
 ·replace h1 : ¬ (((List.length x0 : Nat) : Int) = ((List.length x1 : Nat) : Int)) := of_decide_eq_false (notT h1)
  refine wp_seq ?_
  refine at_regq [] { ts := [0, 1, 4], os := [] } [] gamOK hT h (by kernel_rfl) trivial fun a w h => then_normal (wp_ret (then_ret ?_))
  exact at_return (false, ()) [] h (by kernel_rfl) trivial (congrArg (fun z => (z, ())) (show (false) = (Sh.eqB s27) x0 x1 from by exact (Sh.eqB_ne (fun e => h1 (by rw [e]))).symm))
 ·replace h1 : ((List.length x0 : Nat) : Int) = ((List.length x1 : Nat) : Int) := of_decide_eq_true (notF h1)
  refine wp_skip (then_normal (wp_seq (wp_seq ?_)))
  refine at_regq [] { ts := [0, 1, 4, 12, 13], os := [] } [] gamOK hT h (by kernel_rfl) trivial fun a w h => then_normal (wp_block ?_)
  replace h := at_out (σ' := ⟨[(0, aF (.int 3) x0), (1, aF (.int 3) x1), (4, aB false), (12, aI ((List.length x0 : Nat) : Int)), (13, aI 0)], []⟩) { ts := [0, 1, 4, 12, 13], os := [] } h (by kernel_rfl)
  refine at_loop (fun i : Nat => (⟨[(0, aF (.int 3) x0), (1, aF (.int 3) x1), (4, aB false), (12, aI ((List.length x0 : Nat) : Int)), (13, aI ((i : Nat) : Int))], []⟩ : St)) (fun i => (i ≤ List.length x0 ∧ x0.take i = x1.take i)) (fun i => List.length x0 - i) (0) h (st_congr1 (fun (d0 : Int) => (⟨[(0, aF (.int 3) x0), (1, aF (.int 3) x1), (4, aB false), (12, aI ((List.length x0 : Nat) : Int)), (13, aI d0)], []⟩ : St)) (show (0 : Int) = (((0) : Nat) : Int) from by first | with_reducible rfl | (rfl) | rfl)) (by exact ⟨Nat.zero_le _, rfl⟩) ?_
  intro i a w hok0 h
  refine wp_seq ?_
  refine at_regq [] { ts := [0, 1, 4, 12, 13, 14], os := [] } [] gamOK hT h (by kernel_rfl) trivial fun a w h => then_normal (wp_seq ?_)
  refine at_test (decide (((i : Nat) : Int) < ((List.length x0 : Nat) : Int))) h (by kernel_rfl) (fun h2 => ?_) (fun h2 => ?_)
  ·replace h2 : ((i : Nat) : Int) < ((List.length x0 : Nat) : Int) := of_decide_eq_true h2
   refine wp_skip (then_normal (wp_seq (wp_block (wp_seq ?_))))
   refine at_regq [] { ts := [0, 1, 4, 5, 12, 13], os := [] } [] gamOK hT h (by kernel_rfl) trivial fun a w h => then_normal (wp_seq ?_)
   refine at_anyq [{}, {}, {}, {}, {}, {}, {}, {}, {}] { ts := [0, 1, 4, 12, 13, 24], os := [] } [(0 : Int) ≤ ((i : Nat) : Int) ∧ ((i : Nat) : Int) < ((List.length x0 : Nat) : Int), (0 : Int) ≤ ((i : Nat) : Int) ∧ ((i : Nat) : Int) < ((List.length x1 : Nat) : Int)] gamOK hT mixed h (by kernel_rfl) ⟨(by refine ⟨?_, ?_⟩ <;> (first | omega | (simp only [lsA]; omega) | (simp <;> omega))), (by refine ⟨?_, ?_⟩ <;> (first | omega | (simp only [lsA]; omega) | (simp <;> omega))), trivial⟩ fun a w h => then_normal ?_
   refine at_test (!decide ((x0.getD i 0) = (x1.getD i 0))) h (by kernel_rfl) (fun h3 => ?_) (fun h3 => ?_)
   ·replace h3 : ¬ ((x0.getD i 0) = (x1.getD i 0)) := of_decide_eq_false (notT h3)
    refine wp_seq ?_
    refine at_regq [] { ts := [0, 1, 4, 12, 13], os := [] } [] gamOK hT h (by kernel_rfl) trivial fun a w h => then_normal (wp_ret (in_ret (then_ret (then_ret (in_ret (then_ret ?_))))))
    exact at_return (false, ()) [] h (by kernel_rfl) trivial (congrArg (fun z => (z, ())) (show (false) = (Sh.eqB s27) x0 x1 from by exact (Sh.eqB_ne (s := s27) (fun e => h3 (by rw [e]))).symm))
   ·replace h3 : (x0.getD i 0) = (x1.getD i 0) := of_decide_eq_true (notF h3)
    refine wp_skip (in_normal (then_normal ?_))
    refine at_regq [{ nw := true }] { ts := [0, 1, 4, 12, 13], os := [] } [I64 (((i : Nat) : Int) + 1)] gamOK hT h (by kernel_rfl) ⟨⟨by first | omega | (simp only [lsA]; omega) | (simp <;> omega), by first | omega | (simp only [lsA]; omega) | (simp <;> omega)⟩, trivial⟩ fun a w h => ?_
    replace h := at_out (σ' := ⟨[(0, aF (.int 3) x0), (1, aF (.int 3) x1), (4, aB false), (12, aI ((List.length x0 : Nat) : Int)), (13, aI (((i : Nat) : Int) + 1))], []⟩) { ts := [0, 1, 4, 12, 13], os := [] } h (by kernel_rfl)
    exact ⟨i + 1, at_eq h (st_congr1 (fun (d0 : Int) => (⟨[(0, aF (.int 3) x0), (1, aF (.int 3) x1), (4, aB false), (12, aI ((List.length x0 : Nat) : Int)), (13, aI d0)], []⟩ : St)) (show (((i : Nat) : Int) + 1 : Int) = (((i + 1) : Nat) : Int) from by first | with_reducible rfl | (omega) | rfl)), (by exact ⟨by omega, eqTo_step (z := 0) (by omega) (by omega) hok0.2 h3⟩), (by omega)⟩
  ·replace h2 : ¬ (((i : Nat) : Int) < ((List.length x0 : Nat) : Int)) := of_decide_eq_false h2
   refine wp_exit (then_exit (then_exit (in_hit (then_normal (wp_seq ?_)))))
   refine at_regq [] { ts := [4], os := [] } [] gamOK hT h (by kernel_rfl) trivial fun a w h => then_normal (wp_ret ?_)
   exact at_return (true, ()) [] h (by kernel_rfl) trivial (congrArg (fun z => (z, ())) (show (true) = (Sh.eqB s27) x0 x1 from by (have e := hok0.2; rw [take_all (by omega), take_all (by omega)] at e; exact ((Sh.eqB_iff s27).2 e).symm)))

def S_impl_InRange : Sum := { fid := 51, dom := [(.int 3), (.int 3), (.int 3)], cod := [(.bool 4)], dp := true, fz := false, pre := fun x => True, g := fun x => ((inR x.1 x.2.1 x.2.2.1), ()) }
def S_impl_InRange_tab : List (Nat × Sum) := []
theorem S_impl_InRange_ok : FnOK Try.prog 51 S_impl_InRange := by
 refine at_enter 15 (fun x => ⟨[(0, aI x.1), (1, aI x.2.1), (2, aI x.2.2.1)], []⟩) Try.func51 rfl (by kernel_rfl) (fun x => rfl) ?_
 rintro w0 Z0 ⟨x0, x1, x2, u⟩ a w
 revert x0 x1 x2
 intro (x0 : Int) (x1 : Int) (x2 : Int) hpre hlens h
 have hT : TabOK Try.prog S_impl_InRange_tab := .nil
 refine wp_seq ?_
 refine at_regq [] { ts := [0, 1, 2, 6], os := [] } [] gamOK hT h (by kernel_rfl) trivial fun a w h => then_normal (wp_seq ?_)
 by_cases h1 : x1 ≤ x0
 ·refine at_regq [{}, {}, { hint := some (aB true) }] { ts := [6], os := [] } [(AV.p (.c (.v (.bool (decide (x1 ≤ x0))))) = AV.p (.c (.v (.bool true))))] gamOK hT h (by kernel_rfl) ⟨hint_bool (decide_eq_true h1), trivial⟩ fun a w h => then_normal (wp_ret ?_)
  exact at_return (decide (x0 ≤ x2), ()) [] h (by kernel_rfl) trivial (congrArg (fun z => (z, ())) (show (decide (x0 ≤ x2)) = inR x0 x1 x2 from by (unfold inR; simp [*]; done)))
 ·refine at_regq [{}, {}, { hint := some (aB false) }] { ts := [6], os := [] } [(AV.p (.c (.v (.bool (decide (x1 ≤ x0))))) = AV.p (.c (.v (.bool false))))] gamOK hT h (by kernel_rfl) ⟨hint_bool (decide_eq_false h1), trivial⟩ fun a w h => then_normal (wp_ret ?_)
  exact at_return (false, ()) [] h (by kernel_rfl) trivial (congrArg (fun z => (z, ())) (show (false) = inR x0 x1 x2 from by (unfold inR; simp [*]; done)))

def S_spec_l1In : Sum := { fid := 84, dom := [(.int 3), (.int 3), (.int 3)], cod := [(.bool 4)], dp := true, fz := false, pre := fun x => True, g := fun x => ((inR x.1 x.2.1 x.2.2.1), ()) }
def S_spec_l1In_tab : List (Nat × Sum) := []
theorem S_spec_l1In_ok : FnOK Try.prog 84 S_spec_l1In := by
 refine at_enter 15 (fun x => ⟨[(0, aI x.1), (1, aI x.2.1), (2, aI x.2.2.1)], []⟩) Try.func84 rfl (by kernel_rfl) (fun x => rfl) ?_
 rintro w0 Z0 ⟨x0, x1, x2, u⟩ a w
 revert x0 x1 x2
 intro (x0 : Int) (x1 : Int) (x2 : Int) hpre hlens h
 have hT : TabOK Try.prog S_spec_l1In_tab := .nil
 refine wp_seq ?_
 refine at_regq [] { ts := [0, 1, 2, 6], os := [] } [] gamOK hT h (by kernel_rfl) trivial fun a w h => then_normal (wp_seq ?_)
 by_cases h1 : x0 ≥ x1
 ·refine at_regq [{}, {}, { hint := some (aB true) }] { ts := [6], os := [] } [(AV.p (.c (.v (.bool (decide (x0 ≥ x1))))) = AV.p (.c (.v (.bool true))))] gamOK hT h (by kernel_rfl) ⟨hint_bool (decide_eq_true h1), trivial⟩ fun a w h => then_normal (wp_ret ?_)
  exact at_return (decide (x0 ≤ x2), ()) [] h (by kernel_rfl) trivial (congrArg (fun z => (z, ())) (show (decide (x0 ≤ x2)) = inR x0 x1 x2 from by (unfold inR; first | (simp only [ge_iff_le] at *; simp [*]; done) | (rw [decide_eq_false]; omega))))
 ·refine at_regq [{}, {}, { hint := some (aB false) }] { ts := [6], os := [] } [(AV.p (.c (.v (.bool (decide (x0 ≥ x1))))) = AV.p (.c (.v (.bool false))))] gamOK hT h (by kernel_rfl) ⟨hint_bool (decide_eq_false h1), trivial⟩ fun a w h => then_normal (wp_ret ?_)
  exact at_return (false, ()) [] h (by kernel_rfl) trivial (congrArg (fun z => (z, ())) (show (false) = inR x0 x1 x2 from by (unfold inR; first | (simp only [ge_iff_le] at *; simp [*]; done) | (rw [decide_eq_false]; omega))))

def modF (x0 : Int) (x1 : Int) : Int := (if (inR x1 1 1000000000000) = true then (Int.tmod ((Int.tmod x0 x1) + x1) x1) else 0)
def S_impl_Mod : Sum := { fid := 66, dom := [(.int 3), (.int 3)], cod := [(.int 3)], dp := true, fz := false, pre := fun x => True, g := fun x => ((modF x.1 x.2.1), ()) }
def S_impl_Mod_tab : List (Nat × Sum) := [(51, S_impl_InRange)]
theorem S_impl_Mod_ok : FnOK Try.prog 66 S_impl_Mod := by
 refine at_enter 15 (fun x => ⟨[(0, aI x.1), (1, aI x.2.1)], []⟩) Try.func66 rfl (by kernel_rfl) (fun x => rfl) ?_
 rintro w0 Z0 ⟨x0, x1, u⟩ a w
 revert x0 x1
 intro (x0 : Int) (x1 : Int) hpre hlens h
 have hT : TabOK Try.prog S_impl_Mod_tab := (.cons S_impl_InRange_ok .nil)
 refine wp_seq ?_
 refine at_regq [] { ts := [0, 1, 4], os := [] } [] gamOK hT h (by kernel_rfl) trivial fun a w h => then_normal (wp_seq (wp_seq ?_))
 refine at_regq [] { ts := [0, 1, 4, 7], os := [] } [True] gamOK hT h (by kernel_rfl) ⟨trivial, trivial⟩ fun a w h => then_normal ?_
 refine at_test (!(inR x1 1 1000000000000)) h (by kernel_rfl) (fun h1 => ?_) (fun h1 => ?_)
 ·replace h1 : (inR x1 1 1000000000000) = false := notT h1
  have hvh1 := inR_f h1
  refine wp_seq ?_
  refine at_regq [] { ts := [0, 1, 4], os := [] } [] gamOK hT h (by kernel_rfl) trivial fun a w h => then_normal (wp_ret (then_ret ?_))
  exact at_return (0, ()) [] h (by kernel_rfl) trivial (congrArg (fun z => (z, ())) (show (0) = modF x0 x1 from by first | rfl | (unfold modF; rw [if_neg (neT h1)])))
 ·replace h1 : (inR x1 1 1000000000000) = true := notF h1
  have hvh1 := inR_t h1
  refine wp_skip (then_normal (wp_seq ?_))
  refine at_regq [{}, {}, {}, {}, { nw := true }] { ts := [4], os := [] } [(x1 : Int) ≠ 0, I64 ((Int.tmod x0 x1) + x1), (x1 : Int) ≠ 0] gamOK hT h (by kernel_rfl) ⟨(by first | omega | (have := tmod_bd (p := x0) (q := x1) (by omega); omega)), ⟨by (have hA0 := tmod_v x0 x1; first | omega | (have := tmod_bd (p := x0) (q := x1) (by omega); omega)), by (have hA0 := tmod_v x0 x1; first | omega | (have := tmod_bd (p := x0) (q := x1) (by omega); omega))⟩, (by first | omega | (have := tmod_bd (p := x0) (q := x1) (by omega); omega)), trivial⟩ fun a w h => then_normal (wp_ret ?_)
  exact at_return ((Int.tmod ((Int.tmod x0 x1) + x1) x1), ()) [] h (by kernel_rfl) trivial (congrArg (fun z => (z, ())) (show ((Int.tmod ((Int.tmod x0 x1) + x1) x1)) = modF x0 x1 from by first | rfl | (unfold modF; rw [if_pos h1])))

def S_spec_Mod : Sum := { fid := 186, dom := [(.int 3), (.int 3)], cod := [(.int 3)], dp := true, fz := false, pre := fun x => True, g := fun x => ((modF x.1 x.2.1), ()) }
def S_spec_Mod_tab : List (Nat × Sum) := [(84, S_spec_l1In)]
theorem S_spec_Mod_ok : FnOK Try.prog 186 S_spec_Mod := by
 refine at_enter 15 (fun x => ⟨[(0, aI x.1), (1, aI x.2.1)], []⟩) Try.func186 rfl (by kernel_rfl) (fun x => rfl) ?_
 rintro w0 Z0 ⟨x0, x1, u⟩ a w
 revert x0 x1
 intro (x0 : Int) (x1 : Int) hpre hlens h
 have hT : TabOK Try.prog S_spec_Mod_tab := (.cons S_spec_l1In_ok .nil)
 refine wp_seq ?_
 refine at_regq [] { ts := [0, 1, 4], os := [] } [] gamOK hT h (by kernel_rfl) trivial fun a w h => then_normal (wp_seq (wp_seq ?_))
 refine at_regq [] { ts := [0, 1, 4, 7], os := [] } [True] gamOK hT h (by kernel_rfl) ⟨trivial, trivial⟩ fun a w h => then_normal ?_
 refine at_test (!(inR x1 1 1000000000000)) h (by kernel_rfl) (fun h1 => ?_) (fun h1 => ?_)
 ·replace h1 : (inR x1 1 1000000000000) = false := notT h1
  have hvh1 := inR_f h1
  refine wp_seq ?_
  refine at_regq [] { ts := [0, 1, 4], os := [] } [] gamOK hT h (by kernel_rfl) trivial fun a w h => then_normal (wp_ret (then_ret ?_))
  exact at_return (0, ()) [] h (by kernel_rfl) trivial (congrArg (fun z => (z, ())) (show (0) = modF x0 x1 from by first | rfl | (unfold modF; rw [if_neg (neT h1)]; done) | (unfold modF; simp_all)))
 ·replace h1 : (inR x1 1 1000000000000) = true := notF h1
  have hvh1 := inR_t h1
  refine wp_skip (then_normal (wp_seq ?_))
  refine at_regq [{}, {}, {}, {}, { nw := true }] { ts := [4], os := [] } [(x1 : Int) ≠ 0, I64 ((Int.tmod x0 x1) + x1), (x1 : Int) ≠ 0] gamOK hT h (by kernel_rfl) ⟨(by first | omega | (have := tmod_bd (p := x0) (q := x1) (by omega); omega)), ⟨by (have hA0 := tmod_v x0 x1; first | omega | (have := tmod_bd (p := x0) (q := x1) (by omega); omega)), by (have hA0 := tmod_v x0 x1; first | omega | (have := tmod_bd (p := x0) (q := x1) (by omega); omega))⟩, (by first | omega | (have := tmod_bd (p := x0) (q := x1) (by omega); omega)), trivial⟩ fun a w h => then_normal (wp_ret ?_)
  exact at_return ((Int.tmod ((Int.tmod x0 x1) + x1) x1), ()) [] h (by kernel_rfl) trivial (congrArg (fun z => (z, ())) (show ((Int.tmod ((Int.tmod x0 x1) + x1) x1)) = modF x0 x1 from by first | rfl | (unfold modF; rw [if_pos h1]; done) | (unfold modF; simp_all)))

def isEl (x0 : Int) : Bool := (inR x0 0 1018)
def S_impl_IsElement : Sum := { fid := 68, dom := [(.int 3)], cod := [(.bool 4)], dp := true, fz := false, pre := fun x => True, g := fun x => ((isEl x.1), ()) }
def S_impl_IsElement_tab : List (Nat × Sum) := [(51, S_impl_InRange)]
theorem S_impl_IsElement_ok : FnOK Try.prog 68 S_impl_IsElement := by
 refine at_enter 5 (fun x => ⟨[(0, aI x.1)], []⟩) Try.func68 rfl (by kernel_rfl) (fun x => rfl) ?_
 rintro w0 Z0 ⟨x0, u⟩ a w
 revert x0
 intro (x0 : Int) hpre hlens h
 have hT : TabOK Try.prog S_impl_IsElement_tab := (.cons S_impl_InRange_ok .nil)
 refine wp_seq ?_
 refine at_regq [] { ts := [0, 2], os := [] } [] gamOK hT h (by kernel_rfl) trivial fun a w h => then_normal (wp_seq ?_)
 refine at_regq [] { ts := [2], os := [] } [True] gamOK hT h (by kernel_rfl) ⟨trivial, trivial⟩ fun a w h => then_normal (wp_ret ?_)
 exact at_return ((inR x0 0 1018), ()) [] h (by kernel_rfl) trivial (congrArg (fun z => (z, ())) (show ((inR x0 0 1018)) = isEl x0 from by rfl))
theorem isEl_t {x : Int} (h : isEl x = true) : 0 ≤ x ∧ x ≤ 1018 := inR_t h

def S_spec_IsElement : Sum := { fid := 86, dom := [(.int 3)], cod := [(.bool 4)], dp := true, fz := false, pre := fun x => True, g := fun x => ((isEl x.1), ()) }
def S_spec_IsElement_tab : List (Nat × Sum) := [(84, S_spec_l1In)]
theorem S_spec_IsElement_ok : FnOK Try.prog 86 S_spec_IsElement := by
 refine at_enter 5 (fun x => ⟨[(0, aI x.1)], []⟩) Try.func86 rfl (by kernel_rfl) (fun x => rfl) ?_
 rintro w0 Z0 ⟨x0, u⟩ a w
 revert x0
 intro (x0 : Int) hpre hlens h
 have hT : TabOK Try.prog S_spec_IsElement_tab := (.cons S_spec_l1In_ok .nil)
 refine wp_seq ?_
 refine at_regq [] { ts := [0, 2], os := [] } [] gamOK hT h (by kernel_rfl) trivial fun a w h => then_normal (wp_seq ?_)
 refine at_regq [] { ts := [2], os := [] } [True] gamOK hT h (by kernel_rfl) ⟨trivial, trivial⟩ fun a w h => then_normal (wp_ret ?_)
 exact at_return ((inR x0 0 1018), ()) [] h (by kernel_rfl) trivial (congrArg (fun z => (z, ())) (show ((inR x0 0 1018)) = isEl x0 from by first | rfl | (unfold isEl; rfl; done) | (unfold isEl; simp_all)))

def D_spec_l4Both (x0 : Int) (x1 : Int) : Bool := (if (isEl x0) = true then (isEl x1) else false)
def S_spec_l4Both : Sum := { fid := 185, dom := [(.int 3), (.int 3)], cod := [(.bool 4)], dp := true, fz := false, pre := fun x => True, g := fun x => ((D_spec_l4Both x.1 x.2.1), ()) }
def S_spec_l4Both_tab : List (Nat × Sum) := [(86, S_spec_IsElement)]
theorem S_spec_l4Both_ok : FnOK Try.prog 185 S_spec_l4Both := by
 refine at_enter 11 (fun x => ⟨[(0, aI x.1), (1, aI x.2.1)], []⟩) Try.func185 rfl (by kernel_rfl) (fun x => rfl) ?_
 rintro w0 Z0 ⟨x0, x1, u⟩ a w
 revert x0 x1
 intro (x0 : Int) (x1 : Int) hpre hlens h
 have hT : TabOK Try.prog S_spec_l4Both_tab := (.cons S_spec_IsElement_ok .nil)
 refine wp_seq ?_
 refine at_regq [] { ts := [0, 1, 4], os := [] } [] gamOK hT h (by kernel_rfl) trivial fun a w h => then_normal (wp_seq ?_)
 rcases Bool.eq_false_or_eq_true ((isEl x0)) with h1 | h1
 ·have hvh1 := isEl_t h1
  refine at_regq [{}, { hint := some (aB true) }] { ts := [4], os := [] } [True, (AV.p (.c (.v (.bool ((isEl x0))))) = AV.p (.c (.v (.bool true)))), True] gamOK hT h (by kernel_rfl) ⟨trivial, hint_bool (h1), trivial, trivial⟩ fun a w h => then_normal (wp_ret ?_)
  exact at_return ((isEl x1), ()) [] h (by kernel_rfl) trivial (congrArg (fun z => (z, ())) (show ((isEl x1)) = D_spec_l4Both x0 x1 from by first | rfl | (unfold D_spec_l4Both; rw [if_pos h1])))
 ·refine at_regq [{}, { hint := some (aB false) }] { ts := [4], os := [] } [True, (AV.p (.c (.v (.bool ((isEl x0))))) = AV.p (.c (.v (.bool false))))] gamOK hT h (by kernel_rfl) ⟨trivial, hint_bool (h1), trivial⟩ fun a w h => then_normal (wp_ret ?_)
  exact at_return (false, ()) [] h (by kernel_rfl) trivial (congrArg (fun z => (z, ())) (show (false) = D_spec_l4Both x0 x1 from by first | rfl | (unfold D_spec_l4Both; rw [if_neg (neT h1)])))
theorem l4Both_t {x y : Int} (h : D_spec_l4Both x y = true) : (0 ≤ x ∧ x ≤ 1018) ∧ (0 ≤ y ∧ y ≤ 1018) := by
 unfold D_spec_l4Both at h; split at h
 ·exact ⟨isEl_t (by assumption), isEl_t h⟩
 ·cases h

section
variable {α β : Type}
theorem ctL_filter (c : α → Nat) (p : α → Bool) : ∀ xs : List α, ctL c (xs.filter p) ≤ ctL c xs
 | [] => Nat.le_refl _
 | x :: l => by
  have := ctL_filter c p l
  rw [List.filter_cons]
  split <;> simp only [ctL] <;> omega
theorem eqF_eqL {e : α → α → Bool} : ∀ {xs ys : List α}, eqF e xs ys = eqL e xs ys
 | [], [] => rfl
 | [], _ :: _ => rfl
 | _ :: _, [] => rfl
 | _ :: l, _ :: l' => by simp only [eqF, eqL, eqF_eqL (xs := l)]
def idxsTo (p : α → Bool) (z : α) (xs : List α) : Nat → List Int
 | 0 => []
 | i + 1 => bif p (xs.getD i z) then idxsTo p z xs i ++ [(i : Int)] else idxsTo p z xs i
theorem idxsTo_len {p : α → Bool} {z : α} {xs : List α} : ∀ {i : Nat}, (idxsTo p z xs i).length ≤ i
 | 0 => Nat.le_refl _
 | i + 1 => by
  have := idxsTo_len (p := p) (z := z) (xs := xs) (i := i)
  simp only [idxsTo]
  cases p (xs.getD i z) <;> simp <;> omega
theorem idxsTo_mem {p : α → Bool} {z : α} {xs : List α} {j : Nat} : ∀ {i : Nat}, ((j : Int) ∈ idxsTo p z xs i) ↔ (j < i ∧ p (xs.getD j z) = true)
 | 0 => by simp [idxsTo]
 | i + 1 => by
  have ih := idxsTo_mem (p := p) (z := z) (xs := xs) (j := j) (i := i)
  simp only [idxsTo]
  cases hp : p (xs.getD i z) with
  | true =>
   rw [cond_true, List.mem_append, ih, List.mem_singleton]
   constructor
   ·rintro (h | h)
    ·exact ⟨by omega, h.2⟩
    ·have : j = i := by omega
     subst this; exact ⟨by omega, hp⟩
   ·rintro ⟨h1, h2⟩
    by_cases e : j = i
    ·right; rw [e]
    ·left; exact ⟨by omega, h2⟩
  | false =>
   rw [cond_false, ih]
   constructor
   ·rintro ⟨h1, h2⟩; exact ⟨by omega, h2⟩
   ·rintro ⟨h1, h2⟩
    refine ⟨?_, h2⟩
    by_cases e : j = i
    ·subst e; rw [hp] at h2; cases h2
    ·omega
def remTo (z : α) (xs : List α) (ed : List Int) : Nat → List α
 | 0 => []
 | i + 1 => bif ed.any (fun e => decide ((i : Int) = e)) then remTo z xs ed i else remTo z xs ed i ++ [xs.getD i z]
theorem remTo_len {z : α} {xs : List α} {ed : List Int} : ∀ {i : Nat}, (remTo z xs ed i).length ≤ i
 | 0 => Nat.le_refl _
 | i + 1 => by
  have := remTo_len (z := z) (xs := xs) (ed := ed) (i := i)
  simp only [remTo]
  cases ed.any (fun e => decide ((i : Int) = e)) <;> simp <;> omega
theorem remTo_idxs {p : α → Bool} {z : α} {xs : List α} : ∀ {i n : Nat}, i ≤ n → n ≤ xs.length → remTo z xs (idxsTo p z xs n) i = (xs.take i).filter (fun e => !p e)
 | 0, _, _, _ => by simp [remTo]
 | i + 1, n, h, hn => by
  have ih := remTo_idxs (p := p) (z := z) (xs := xs) (i := i) (n := n) (by omega) hn
  have hm : (idxsTo p z xs n).any (fun e => decide ((i : Int) = e)) = p (xs.getD i z) := by
   rw [Bool.eq_iff_iff, List.any_eq_true]
   constructor
   ·rintro ⟨x, hx, he⟩
    have he := of_decide_eq_true he
    rw [← he] at hx
    exact (idxsTo_mem.1 hx).2
   ·intro hp
    exact ⟨(i : Int), idxsTo_mem.2 ⟨by omega, hp⟩, by simp⟩
  simp only [remTo, hm, ih]
  cases hp : p (xs.getD i z) with
  | true => rw [cond_true, filter_snoc_f (z := z) (by omega) (by simp only [hp]; rfl)]
  | false => rw [cond_false, filter_snoc_t (z := z) (by omega) (by simp only [hp]; rfl)]
end
def S_spec_EqualInts : Sum := { fid := 172, dom := [s27, s27], cod := [(.bool 4)], dp := true, fz := false, pre := fun x => True, g := fun x => (((Sh.eqB s27) x.1 x.2.1), ()) }
def S_spec_EqualInts_tab : List (Nat × Sum) := []
theorem S_spec_EqualInts_ok : FnOK Try.prog 172 S_spec_EqualInts := by
 refine at_enter 26 (fun x => ⟨[(0, aF (.int 3) x.1), (1, aF (.int 3) x.2.1)], []⟩) Try.func172 rfl (by kernel_rfl) (fun x => rfl) ?_
 rintro w0 Z0 ⟨x0, x1, u⟩ a w
 revert x0 x1
 intro (x0 : (List Int)) (x1 : (List Int)) hpre hlens h
 have hl1 : List.length x0 ≤ 9223372036854775807 := hlens.1.1
 have hl2 : List.length x1 ≤ 9223372036854775807 := hlens.2.1.1
 have hT : TabOK Try.prog S_spec_EqualInts_tab := .nil
 refine wp_seq ?_
 refine at_regq [] { ts := [0, 1, 4], os := [] } [] gamOK hT h (by kernel_rfl) trivial fun a w h => then_normal (wp_seq (wp_seq ?_))
 refine at_regq [] { ts := [0, 1, 4, 10], os := [] } [] gamOK hT h (by kernel_rfl) trivial fun a w h => then_normal ?_
 refine at_test (!decide (((List.length x0 : Nat) : Int) = ((List.length x1 : Nat) : Int))) h (by kernel_rfl) (fun h1 => ?_) (fun h1 => ?_)
 ·replace h1 : ¬ (((List.length x0 : Nat) : Int) = ((List.length x1 : Nat) : Int)) := of_decide_eq_false (notT h1)
  refine wp_seq ?_
  refine at_regq [] { ts := [0, 1, 4], os := [] } [] gamOK hT h (by kernel_rfl) trivial fun a w h => then_normal (wp_ret (then_ret ?_))
  exact at_return (false, ()) [] h (by kernel_rfl) trivial (congrArg (fun z => (z, ())) (show (false) = (Sh.eqB s27) x0 x1 from by exact (Sh.eqB_ne (fun e => h1 (by rw [e]))).symm))
 ·replace h1 : ((List.length x0 : Nat) : Int) = ((List.length x1 : Nat) : Int) := of_decide_eq_true (notF h1)
  refine wp_skip (then_normal (wp_seq (wp_seq ?_)))
  refine at_regq [] { ts := [0, 1, 4, 5], os := [] } [] gamOK hT h (by kernel_rfl) trivial fun a w h => then_normal (wp_block ?_)
  replace h := at_out (σ' := ⟨[(0, aF (.int 3) x0), (1, aF (.int 3) x1), (4, aB false), (5, aI 0)], []⟩) { ts := [0, 1, 4, 5], os := [] } h (by kernel_rfl)
  refine at_loop (fun i : Nat => (⟨[(0, aF (.int 3) x0), (1, aF (.int 3) x1), (4, aB false), (5, aI ((i : Nat) : Int))], []⟩ : St)) (fun i => (i ≤ List.length x0 ∧ x0.take i = x1.take i)) (fun i => List.length x0 - i) (0) h (st_congr1 (fun (d0 : Int) => (⟨[(0, aF (.int 3) x0), (1, aF (.int 3) x1), (4, aB false), (5, aI d0)], []⟩ : St)) (show (0 : Int) = (((0) : Nat) : Int) from by first | with_reducible rfl | (rfl) | rfl)) (by exact ⟨Nat.zero_le _, rfl⟩) ?_
  intro i a w hok0 h
  refine wp_seq (wp_seq ?_)
  refine at_regq [] { ts := [0, 1, 4, 5, 14], os := [] } [] gamOK hT h (by kernel_rfl) trivial fun a w h => then_normal ?_
  refine at_test (decide (((i : Nat) : Int) < ((List.length x0 : Nat) : Int))) h (by kernel_rfl) (fun h2 => ?_) (fun h2 => ?_)
  ·replace h2 : ((i : Nat) : Int) < ((List.length x0 : Nat) : Int) := of_decide_eq_true h2
   refine wp_skip (then_normal (wp_seq (wp_block (wp_seq ?_))))
   refine at_anyq [{}, {}, {}, {}, {}, {}, {}, {}, {}] { ts := [0, 1, 4, 5, 25], os := [] } [(0 : Int) ≤ ((i : Nat) : Int) ∧ ((i : Nat) : Int) < ((List.length x0 : Nat) : Int), (0 : Int) ≤ ((i : Nat) : Int) ∧ ((i : Nat) : Int) < ((List.length x1 : Nat) : Int)] gamOK hT mixed h (by kernel_rfl) ⟨(by refine ⟨?_, ?_⟩ <;> (first | omega | (simp only [lsA]; omega) | (simp <;> omega))), (by refine ⟨?_, ?_⟩ <;> (first | omega | (simp only [lsA]; omega) | (simp <;> omega))), trivial⟩ fun a w h => then_normal ?_
   refine at_test (!decide ((x0.getD i 0) = (x1.getD i 0))) h (by kernel_rfl) (fun h3 => ?_) (fun h3 => ?_)
   ·replace h3 : ¬ ((x0.getD i 0) = (x1.getD i 0)) := of_decide_eq_false (notT h3)
    refine wp_seq ?_
    refine at_regq [] { ts := [0, 1, 4, 5], os := [] } [] gamOK hT h (by kernel_rfl) trivial fun a w h => then_normal (wp_ret (in_ret (then_ret (then_ret (in_ret (then_ret ?_))))))
    exact at_return (false, ()) [] h (by kernel_rfl) trivial (congrArg (fun z => (z, ())) (show (false) = (Sh.eqB s27) x0 x1 from by exact (Sh.eqB_ne (s := s27) (fun e => h3 (by rw [e]))).symm))
   ·replace h3 : (x0.getD i 0) = (x1.getD i 0) := of_decide_eq_true (notF h3)
    refine wp_skip (in_normal (then_normal ?_))
    refine at_regq [{}, { nw := true }] { ts := [0, 1, 4, 5], os := [] } [I64 (((i : Nat) : Int) + 1)] gamOK hT h (by kernel_rfl) ⟨⟨by first | omega | (simp only [lsA]; omega) | (simp <;> omega), by first | omega | (simp only [lsA]; omega) | (simp <;> omega)⟩, trivial⟩ fun a w h => ?_
    replace h := at_out (σ' := ⟨[(0, aF (.int 3) x0), (1, aF (.int 3) x1), (4, aB false), (5, aI (((i : Nat) : Int) + 1))], []⟩) { ts := [0, 1, 4, 5], os := [] } h (by kernel_rfl)
    exact ⟨i + 1, at_eq h (st_congr1 (fun (d0 : Int) => (⟨[(0, aF (.int 3) x0), (1, aF (.int 3) x1), (4, aB false), (5, aI d0)], []⟩ : St)) (show (((i : Nat) : Int) + 1 : Int) = (((i + 1) : Nat) : Int) from by first | with_reducible rfl | (omega) | rfl)), (by exact ⟨by omega, eqTo_step (z := 0) (by omega) (by omega) hok0.2 h3⟩), (by omega)⟩
  ·replace h2 : ¬ (((i : Nat) : Int) < ((List.length x0 : Nat) : Int)) := of_decide_eq_false h2
   refine wp_exit (then_exit (then_exit (in_hit (then_normal (wp_seq ?_)))))
   refine at_regq [] { ts := [4], os := [] } [] gamOK hT h (by kernel_rfl) trivial fun a w h => then_normal (wp_ret ?_)
   exact at_return (true, ()) [] h (by kernel_rfl) trivial (congrArg (fun z => (z, ())) (show (true) = (Sh.eqB s27) x0 x1 from by (have e := hok0.2; rw [take_all (by omega), take_all (by omega)] at e; exact ((Sh.eqB_iff s27).2 e).symm)))

def pKey (_ : Int) (l : List Int) : Prop := l.length ≤ 4294967296
def hashS (d v : Int) : Int := (d * 1000003 + modF v 2147483647 + 13).tmod 2147483647
def hashF (l : List Int) : Int := l.foldl hashS 11
def keyed (k : Int) (l : List Int) : Int := hashF ([k] ++ l ++ [k])
theorem modF_bd (v : Int) : 0 ≤ modF v 2147483647 ∧ modF v 2147483647 < 2147483647 := by
 unfold modF
 rw [if_pos (by decide)]
 have h1 := (tmod_f v 2147483647 (by decide)).1
 have h2 := tmod_f (v.tmod 2147483647 + 2147483647) 2147483647 (by decide)
 omega
theorem hashS_bd {d : Int} (v : Int) (h : 0 ≤ d ∧ d < 2147483647) : 0 ≤ hashS d v ∧ hashS d v < 2147483647 := by
 unfold hashS
 have h1 := modF_bd v
 have h2 := tmod_f (d * 1000003 + modF v 2147483647 + 13) 2147483647 (by decide)
 omega
theorem hashTo_bd (l : List Int) : ∀ (d : Int), (0 ≤ d ∧ d < 2147483647) → 0 ≤ l.foldl hashS d ∧ l.foldl hashS d < 2147483647 := by
 induction l with
 | nil => intro d h; exact h
 | cons v l ih => intro d h; exact ih _ (hashS_bd v h)
theorem hash_bd (l : List Int) (i : Nat) : 0 ≤ foldTo hashS 11 l i ∧ foldTo hashS 11 l i < 2147483647 := hashTo_bd _ _ (by decide)
theorem hashF_bd (l : List Int) : 0 ≤ hashF l ∧ hashF l < 2147483647 := hashTo_bd _ _ (by decide)
theorem keyed_bd (k : Int) (l : List Int) : 0 ≤ keyed k l ∧ keyed k l < 2147483647 := hashF_bd _
def S_spec_Hash : Sum := { fid := 181, dom := [s27], cod := [(.int 3)], dp := true, fz := false, pre := fun x => True, g := fun x => ((hashF x.1), ()) }
def S_spec_Hash_tab : List (Nat × Sum) := [(186, S_spec_Mod)]
theorem S_spec_Hash_ok : FnOK Try.prog 181 S_spec_Hash := by
 refine at_enter 22 (fun x => ⟨[(0, aF (.int 3) x.1)], []⟩) Try.func181 rfl (by kernel_rfl) (fun x => rfl) ?_
 rintro w0 Z0 ⟨x0, u⟩ a w
 revert x0
 intro (x0 : (List Int)) hpre hlens h
 have hl1 : List.length x0 ≤ 9223372036854775807 := hlens.1.1
 have hT : TabOK Try.prog S_spec_Hash_tab := (.cons S_spec_Mod_ok .nil)
 refine wp_seq ?_
 refine at_regq [] { ts := [0, 2], os := [] } [] gamOK hT h (by kernel_rfl) trivial fun a w h => then_normal (wp_seq ?_)
 refine at_regq [] { ts := [0, 2, 3], os := [] } [] gamOK hT h (by kernel_rfl) trivial fun a w h => then_normal (wp_seq (wp_seq ?_))
 refine at_regq [] { ts := [0, 2, 3, 4], os := [] } [] gamOK hT h (by kernel_rfl) trivial fun a w h => then_normal (wp_block ?_)
 replace h := at_out (σ' := ⟨[(0, aF (.int 3) x0), (2, aI 0), (3, aI 11), (4, aI 0)], []⟩) { ts := [0, 2, 3, 4], os := [] } h (by kernel_rfl)
 refine at_loop (fun i : Nat => (⟨[(0, aF (.int 3) x0), (2, aI 0), (3, aI (foldTo hashS 11 x0 i)), (4, aI ((i : Nat) : Int))], []⟩ : St)) (fun i => i ≤ List.length x0) (fun i => List.length x0 - i) (0) h (st_congr2 (fun (d0 : Int) (d1 : Int) => (⟨[(0, aF (.int 3) x0), (2, aI 0), (3, aI d0), (4, aI d1)], []⟩ : St)) (show (11 : Int) = (foldTo hashS 11 x0 (0)) from by first | with_reducible rfl | (first | rfl | simp) | rfl) (show (0 : Int) = (((0) : Nat) : Int) from by first | with_reducible rfl | (first | rfl | simp) | rfl)) (by omega) ?_
 intro i a w hok0 h
 have hbd := hash_bd x0 i
 refine wp_seq (wp_seq ?_)
 refine at_regq [] { ts := [0, 2, 3, 4, 8], os := [] } [] gamOK hT h (by kernel_rfl) trivial fun a w h => then_normal ?_
 refine at_test (decide (((i : Nat) : Int) < ((List.length x0 : Nat) : Int))) h (by kernel_rfl) (fun h1 => ?_) (fun h1 => ?_)
 ·replace h1 : ((i : Nat) : Int) < ((List.length x0 : Nat) : Int) := of_decide_eq_true h1
  have hmb := modF_bd (x0.getD i 0)
  refine wp_skip (then_normal (wp_seq (wp_block ?_)))
  refine at_regq [{}, { nw := true }, {}, {}, {}, {}, {}, { nw := true }, { nw := true }] { ts := [0, 2, 3, 4], os := [] } [I64 ((foldTo hashS 11 x0 i) * 1000003), (0 : Int) ≤ ((i : Nat) : Int) ∧ ((i : Nat) : Int) < ((List.length x0 : Nat) : Int), True, I64 (((foldTo hashS 11 x0 i) * 1000003) + (modF (x0.getD i 0) 2147483647)), I64 ((((foldTo hashS 11 x0 i) * 1000003) + (modF (x0.getD i 0) 2147483647)) + 13), (2147483647 : Int) ≠ 0] gamOK hT h (by kernel_rfl) ⟨⟨by first | omega | (simp only [lsA]; omega) | (simp <;> omega), by first | omega | (simp only [lsA]; omega) | (simp <;> omega)⟩, (by refine ⟨?_, ?_⟩ <;> (first | omega | (simp only [lsA]; omega) | (simp <;> omega))), trivial, ⟨by first | omega | (simp only [lsA]; omega) | (simp <;> omega), by first | omega | (simp only [lsA]; omega) | (simp <;> omega)⟩, ⟨by first | omega | (simp only [lsA]; omega) | (simp <;> omega), by first | omega | (simp only [lsA]; omega) | (simp <;> omega)⟩, (by first | omega | (simp only [lsA]; omega) | (simp <;> omega)), trivial⟩ fun a w h => in_normal (then_normal ?_)
  refine at_regq [{}, { nw := true }] { ts := [0, 2, 3, 4], os := [] } [I64 (((i : Nat) : Int) + 1)] gamOK hT h (by kernel_rfl) ⟨⟨by first | omega | (simp only [lsA]; omega) | (simp <;> omega), by first | omega | (simp only [lsA]; omega) | (simp <;> omega)⟩, trivial⟩ fun a w h => ?_
  replace h := at_out (σ' := ⟨[(0, aF (.int 3) x0), (2, aI 0), (3, aI (Int.tmod ((((foldTo hashS 11 x0 i) * 1000003) + (modF (x0.getD i 0) 2147483647)) + 13) 2147483647)), (4, aI (((i : Nat) : Int) + 1))], []⟩) { ts := [0, 2, 3, 4], os := [] } h (by kernel_rfl)
  exact ⟨i + 1, at_eq h (st_congr2 (fun (d0 : Int) (d1 : Int) => (⟨[(0, aF (.int 3) x0), (2, aI 0), (3, aI d0), (4, aI d1)], []⟩ : St)) (show ((Int.tmod ((((foldTo hashS 11 x0 i) * 1000003) + (modF (x0.getD i 0) 2147483647)) + 13) 2147483647) : Int) = (foldTo hashS 11 x0 (i + 1)) from by first | with_reducible rfl | (rw [foldTo_succ 0 (by omega)]; first | rfl | (simp_all; done)) | rfl) (show (((i : Nat) : Int) + 1 : Int) = (((i + 1) : Nat) : Int) from by first | with_reducible rfl | (omega) | rfl)), (by omega), (by omega)⟩
 ·replace h1 : ¬ (((i : Nat) : Int) < ((List.length x0 : Nat) : Int)) := of_decide_eq_false h1
  refine wp_exit (then_exit ?_)
  replace h := at_out (σ' := ⟨[(2, aI 0), (3, aI (foldTo hashS 11 x0 i))], []⟩) { ts := [2, 3], os := [] } h (by kernel_rfl)
  replace h := at_eq (σ' := ⟨[(2, aI 0), (3, aI (List.foldl hashS 11 x0))], []⟩) h (st_congr1 (fun (d0 : Int) => (⟨[(2, aI 0), (3, aI d0)], []⟩ : St)) (show ((foldTo hashS 11 x0 i) : Int) = (List.foldl hashS 11 x0) from by first | with_reducible rfl | (rw [foldTo_all (by omega)]) | rfl))
  refine then_exit (in_hit (then_normal (wp_seq ?_)))
  refine at_regq [] { ts := [2], os := [] } [] gamOK hT h (by kernel_rfl) trivial fun a w h => then_normal (wp_ret ?_)
  exact at_return ((List.foldl hashS 11 x0), ()) [] h (by kernel_rfl) trivial (congrArg (fun z => (z, ())) (show ((List.foldl hashS 11 x0)) = hashF x0 from by rfl))

def S_spec_KeyedHash : Sum := { fid := 165, dom := [(.int 3), s27], cod := [(.int 3)], dp := true, fz := false, pre := fun x => pKey x.1 x.2.1, g := fun x => ((keyed x.1 x.2.1), ()) }
def S_spec_KeyedHash_tab : List (Nat × Sum) := [(181, S_spec_Hash)]
theorem S_spec_KeyedHash_ok : FnOK Try.prog 165 S_spec_KeyedHash := by
 refine at_enter 13 (fun x => ⟨[(0, aI x.1), (1, aF (.int 3) x.2.1)], []⟩) Try.func165 rfl (by kernel_rfl) (fun x => rfl) ?_
 rintro w0 Z0 ⟨x0, x1, u⟩ a w
 revert x0 x1
 intro (x0 : Int) (x1 : (List Int)) hpre hlens h
 replace hpre : pKey x0 x1 := hpre
 have hl1 : List.length x1 ≤ 9223372036854775807 := hlens.2.1.1
 have hT : TabOK Try.prog S_spec_KeyedHash_tab := (.cons S_spec_Hash_ok .nil)
 have hp : List.length x1 ≤ 4294967296 := hpre
 refine wp_seq ?_
 refine at_regq [] { ts := [0, 1, 4], os := [] } [] gamOK hT h (by kernel_rfl) trivial fun a w h => then_normal (wp_seq ?_)
 refine at_regq [{}, { ids := [1] }, {}, { ids := [2] }, {}, { ids := [3] }, { ids := [4] }] { ts := [4], os := [] } [(List.length ([x0]) + List.length x1) * 8 ≤ 140737488355328, (List.length (([x0]) ++ x1) + List.length ([x0])) * 8 ≤ 140737488355328, True] gamOK hT h (by kernel_rfl) ⟨(by first | omega | (simp only [lsA]; omega) | (simp <;> omega)), (by first | omega | (simp only [lsA]; omega) | (simp <;> omega)), trivial, trivial⟩ fun a w h => then_normal (wp_ret ?_)
 exact at_return ((hashF ((([x0]) ++ x1) ++ ([x0]))), ()) [] h (by kernel_rfl) trivial (congrArg (fun z => (z, ())) (show ((hashF ((([x0]) ++ x1) ++ ([x0])))) = keyed x0 x1 from by rfl))

theorem shr1 {n : Nat} : Int.fdiv (n : Int) (2 ^ (min (1 : Int).toNat (IntKind.i64).bits)) = ((n / 2 : Nat) : Int) := by
 have e2 : (2 : Int) ^ (min (1 : Int).toNat (IntKind.i64).bits) = 2 := by decide
 rw [e2, Int.fdiv_eq_ediv_of_nonneg _ (by omega)]; omega
theorem and1 {n : Nat} (h : n ≤ 4611686018427387904) : IntKind.i64.wrap ((BitVec.ofInt (IntKind.i64).bits (n : Int) &&& BitVec.ofInt (IntKind.i64).bits 1).toNat : Int) = ((n % 2 : Nat) : Int) := by
 have e : (BitVec.ofInt (IntKind.i64).bits (n : Int) &&& BitVec.ofInt (IntKind.i64).bits 1).toNat = n % 2 := by
  rw [BitVec.toNat_and]
  have h1 : (BitVec.ofInt (IntKind.i64).bits (n : Int)).toNat = n := by
   rw [BitVec.toNat_ofInt]
   simp [IntKind.bits]
   omega
  have h2 : (BitVec.ofInt (IntKind.i64).bits 1).toNat = 1 := by decide
  rw [h1, h2, Nat.and_one_is_mod]
 rw [e, IntKind.wrap_i64]; omega
theorem lead_idx : ∀ {xs : List Int}, idxF (fun e => !decide (e = 0)) xs = LA.leadS xs
 | [] => rfl
 | x :: l => by
  have ih := lead_idx (xs := l)
  simp only [idxF, LA.leadS, ih]
  by_cases h : x = 0
  ·rw [if_neg (show ¬ (!decide (x = 0)) = true by simp [h]), if_neg (show ¬ x ≠ 0 from fun e => e h)]
  ·rw [if_pos (show (!decide (x = 0)) = true by simp [h]), if_pos h]
def powP (a n m : Int) : Prop := (0 ≤ a ∧ a < m) ∧ (0 ≤ n ∧ n ≤ 4611686018427387904) ∧ 1 < m ∧ m ≤ 1048576
def powD (a n m : Int) : Int := LA.pmL m 1 a n.toNat
def powOK (x0 x1 x2 : Int) (q : Int × Int × Nat) : Prop := LA.pmL x2 q.1 q.2.1 q.2.2 = powD x0 x1 x2 ∧ (0 ≤ q.1 ∧ q.1 < x2) ∧ (0 ≤ q.2.1 ∧ q.2.1 < x2) ∧ q.2.2 ≤ 4611686018427387904
theorem powOK_odd {x0 x1 x2 : Int} {q : Int × Int × Nat} (h : powOK x0 x1 x2 q) (hm : 1 < x2) (h2 : q.2.2 % 2 = 1) : powOK x0 x1 x2 ((q.1 * q.2.1).tmod x2, (q.2.1 * q.2.1).tmod x2, q.2.2 / 2) := by
 obtain ⟨h0, ⟨h3, h4⟩, ⟨h5, h6⟩, h7⟩ := h
 exact ⟨by rw [← h0]; exact (LA.pmL_odd h2).symm, LA.tmod_lt (Int.mul_nonneg h3 h5) (by omega), LA.tmod_lt (Int.mul_nonneg h5 h5) (by omega), by dsimp only; omega⟩
theorem powOK_even {x0 x1 x2 : Int} {q : Int × Int × Nat} (h : powOK x0 x1 x2 q) (hm : 1 < x2) (h1 : q.2.2 ≠ 0) (h2 : q.2.2 % 2 = 0) : powOK x0 x1 x2 (q.1, (q.2.1 * q.2.1).tmod x2, q.2.2 / 2) := by
 obtain ⟨h0, ⟨h3, h4⟩, ⟨h5, h6⟩, h7⟩ := h
 exact ⟨by rw [← h0]; exact (LA.pmL_even h1 h2).symm, ⟨h3, h4⟩, LA.tmod_lt (Int.mul_nonneg h5 h5) (by omega), by dsimp only; omega⟩
def invF (x : Int) : Int := if isEl x = true then LA.invS x else 0
theorem invS_zero : LA.invS 0 = 0 := by
 have h := LA.pmL_bd (m := 1019) (by decide) 10 1017 1 0 (by decide) (by decide) (by decide) (by decide)
 have h2 := LA.pmL_c 10 1017 1 0 (by decide) (by decide) (by decide)
 have h3 : LA.c (LA.invS 0) = 0 := by unfold LA.invS; rw [h2]; decide +kernel
 exact (LA.c_ne ⟨h.1, by have := h.2; show LA.pmL 1019 1 0 1017 ≤ 1018; omega⟩).1 h3
theorem invF_bd (x : Int) : 0 ≤ invF x ∧ invF x ≤ 1018 := by
 unfold invF
 split
 ·rename_i h
  have hx := isEl_t h
  have := LA.pmL_bd (m := 1019) (by decide) 10 1017 1 x (by decide) (by decide) (by decide) hx.1
  unfold LA.invS; omega
 ·omega
theorem invF_el {x : Int} (h : 0 ≤ x ∧ x ≤ 1018) : invF x = LA.invS x := if_pos (inR_true h)
theorem elB {v : List Int} (h : ∀ x ∈ v, LA.El x) (j : Nat) : 0 ≤ v.getD j 0 ∧ v.getD j 0 ≤ 1018 := LA.VokB.at_ (n := v.length) ⟨rfl, h⟩ j
def addOK (a b : List Int) (k : Int) : Prop := List.length a = List.length b ∧ (0 ≤ k ∧ k ≤ 1019) ∧ (∀ j, 0 ≤ a.getD j 0 ∧ a.getD j 0 ≤ 1018) ∧ (∀ j, 0 ≤ b.getD j 0 ∧ b.getD j 0 ≤ 1018)
def addTo (a b : List Int) (k : Int) (i : Nat) : List Int := (LA.addS a b k).take i ++ a.drop i
theorem addTo_len {a b : List Int} {k : Int} {i : Nat} (h : a.length = b.length) (hi : i ≤ a.length) : (addTo a b k i).length = a.length := by
 simp [addTo, LA.addS_len h]; omega
theorem addTo_get {a b : List Int} {k : Int} {i : Nat} (h : a.length = b.length) (hi : i < a.length) : (addTo a b k i).getD i 0 = a.getD i 0 := by
 have hl : (List.take i (LA.addS a b k)).length = i := by simp [LA.addS_len h]; omega
 unfold addTo
 simp only [List.getD_eq_getElem?_getD]
 rw [List.getElem?_append_right (by omega), hl, List.getElem?_drop]; simp
theorem addTo_set {a b : List Int} {k : Int} {i : Nat} (h : a.length = b.length) (hi : i < a.length) : (addTo a b k i).set i ((a.getD i 0 + k * b.getD i 0).tmod 1019) = addTo a b k (i + 1) := by
 have hl : (List.take i (LA.addS a b k)).length = i := by simp [LA.addS_len h]; omega
 unfold addTo
 rw [List.set_append_right _ _ (by omega), hl, Nat.sub_self, take_snoc (z := 0) (by rw [LA.addS_len h]; exact hi), LA.addS_at h, List.append_assoc]
 congr 1
 rw [← List.getElem_cons_drop hi, List.set_cons_zero]; rfl
theorem addTo_all {a b : List Int} {k : Int} {i : Nat} (h : a.length = b.length) (hi : a.length ≤ i) : addTo a b k i = LA.addS a b k := by
 unfold addTo
 rw [take_all (by rw [LA.addS_len h]; exact hi), List.drop_eq_nil_of_le hi, List.append_nil]
theorem addS_zero {v : List Int} {k : Int} : LA.addS (List.replicate v.length 0) v k = LA.scaleS v k := by
 unfold LA.addS LA.scaleS
 induction v with
 | nil => rfl
 | cons x l ih =>
  rw [List.length_cons, List.replicate_succ, List.zipWith_cons_cons, List.map_cons, ih, Int.zero_add, Int.mul_comm]
theorem validV_el {v : List Int} (h : List.all v isEl = true) : ∀ x ∈ v, LA.El x := fun x hx => isEl_t (List.all_eq_true.1 h x hx)
abbrev scF (k x : Int) : Int := (x * k).tmod 1019
theorem rep_get (n j : Nat) : (List.replicate n (0 : Int)).getD j 0 = 0 := by
 rw [List.getD_eq_getElem?_getD, List.getElem?_replicate]; split <;> rfl
theorem addS_take_le (a b : List Int) (k : Int) (i : Nat) : List.length (List.take i (LA.addS a b k)) ≤ List.length a := by simp [LA.addS]; omega
def prevL (m : List (List Int)) (i : Nat) : Int := if i = 0 then -1 else LA.leadS (m.getD (i - 1) [])
theorem prevL_bd (m : List (List Int)) (i : Nat) : -1 ≤ prevL m i := by
 unfold prevL; split
 ·omega
 ·have := LA.leadS_bd (m.getD (i - 1) []); omega
def clrB (m : List (List Int)) (i k : Nat) : Bool := decide (k = i) || decide ((m.getD k []).getD (LA.leadS (m.getD i [])).toNat 0 = 0)
theorem clrB_t {m : List (List Int)} {i k : Nat} (h : (k : Int) = (i : Int) ∨ (m.getD k []).getD (LA.leadS (m.getD i [])).toNat 0 = 0) : clrB m i k = true := by
 unfold clrB; rw [Bool.or_eq_true, decide_eq_true_iff, decide_eq_true_iff]; omega
theorem clrB_f {m : List (List Int)} {i k : Nat} (h1 : ¬ (k : Int) = (i : Int)) (h2 : ¬ (m.getD k []).getD (LA.leadS (m.getD i [])).toNat 0 = 0) : clrB m i k = false := by
 unfold clrB; rw [Bool.or_eq_false_iff, decide_eq_false_iff_not, decide_eq_false_iff_not]; omega
def redB (m : List (List Int)) (i : Nat) : Bool := decide (prevL m i < LA.leadS (m.getD i [])) && (decide ((m.getD i []).getD (LA.leadS (m.getD i [])).toNat 0 = 1) && allN (clrB m i) m.length)
theorem redB_t {m : List (List Int)} {i : Nat} (h1 : prevL m i < LA.leadS (m.getD i [])) (h2 : (m.getD i []).getD (LA.leadS (m.getD i [])).toNat 0 = 1) (h3 : allN (clrB m i) m.length = true) : redB m i = true := by
 unfold redB; rw [decide_eq_true h1, decide_eq_true h2, h3]; rfl
theorem redB_f1 {m : List (List Int)} {i : Nat} (h : LA.leadS (m.getD i []) ≤ prevL m i) : redB m i = false := by
 unfold redB; rw [decide_eq_false (by omega)]; rfl
theorem redB_f2 {m : List (List Int)} {i : Nat} (h : ¬ (m.getD i []).getD (LA.leadS (m.getD i [])).toNat 0 = 1) : redB m i = false := by
 unfold redB; rw [decide_eq_false h, Bool.false_and, Bool.and_false]
theorem redB_f3 {m : List (List Int)} {i : Nat} (h : allN (clrB m i) m.length = false) : redB m i = false := by
 unfold redB; rw [h, Bool.and_false, Bool.and_false]
theorem redB_iff {m : List (List Int)} {i : Nat} : redB m i = true ↔ LA.redAt m i := by
 unfold redB LA.redAt prevL
 rw [Bool.and_eq_true, Bool.and_eq_true, decide_eq_true_iff, decide_eq_true_iff, allN_iff]
 constructor
 ·rintro ⟨h1, h2, h3⟩
  refine ⟨h1, h2, fun k hk hne => ?_⟩
  have := h3 k hk
  unfold clrB at this
  rw [Bool.or_eq_true, decide_eq_true_iff, decide_eq_true_iff] at this
  rcases this with h | h
  ·exact absurd h hne
  ·exact h
 ·rintro ⟨h1, h2, h3⟩
  refine ⟨h1, h2, fun k hk => ?_⟩
  unfold clrB
  rw [Bool.or_eq_true, decide_eq_true_iff, decide_eq_true_iff]
  by_cases e : k = i
  ·exact Or.inl e
  ·exact Or.inr (h3 k hk e)
theorem red_all {m : List (List Int)} {n : Nat} (h : ∀ r ∈ m, LA.VokB n r) : allN (redB m) m.length = true ↔ LA.RedL n m := by
 rw [← LA.redAt_iff h, allN_iff]
 exact ⟨fun g i hi => redB_iff.1 (g i hi), fun g i hi => redB_iff.2 (g i hi)⟩
def S_impl_powMod : Sum := { fid := 106, dom := [(.int 3), (.int 3), (.int 3)], cod := [(.int 3)], dp := true, fz := false, pre := fun x => powP x.1 x.2.1 x.2.2.1, g := fun x => ((powD x.1 x.2.1 x.2.2.1), ()) }
def S_impl_powMod_tab : List (Nat × Sum) := []
theorem S_impl_powMod_ok : FnOK Try.prog 106 S_impl_powMod := by
 refine at_enter 26 (fun x => ⟨[(0, aI x.1), (1, aI x.2.1), (2, aI x.2.2.1)], []⟩) Try.func106 rfl (by kernel_rfl) (fun x => rfl) ?_
 rintro w0 Z0 ⟨x0, x1, x2, u⟩ a w
 revert x0 x1 x2
 intro (x0 : Int) (x1 : Int) (x2 : Int) hpre hlens h
 replace hpre : powP x0 x1 x2 := hpre
 have hT : TabOK Try.prog S_impl_powMod_tab := .nil
 have hp : (0 ≤ x0 ∧ x0 < x2) ∧ (0 ≤ x1 ∧ x1 ≤ 4611686018427387904) ∧ 1 < x2 ∧ x2 ≤ 1048576 := hpre
 refine wp_seq ?_
 refine at_regq [] { ts := [0, 1, 2, 6], os := [] } [] gamOK hT h (by kernel_rfl) trivial fun a w h => then_normal (wp_seq ?_)
 refine at_regq [] { ts := [0, 1, 2, 6, 7], os := [] } [] gamOK hT h (by kernel_rfl) trivial fun a w h => then_normal (wp_seq (wp_block ?_))
 replace h := at_out (σ' := ⟨[(0, aI x0), (1, aI x1), (2, aI x2), (6, aI 0), (7, aI 1)], []⟩) { ts := [0, 1, 2, 6, 7], os := [] } h (by kernel_rfl)
 refine at_loop (fun q : (Int × Int × Nat) => (⟨[(0, aI q.2.1), (1, aI ((q.2.2 : Nat) : Int)), (2, aI x2), (6, aI 0), (7, aI q.1)], []⟩ : St)) (fun q => powOK x0 x1 x2 q) (fun q => q.2.2) ((1, x0, x1.toNat)) h (st_congr3 (fun (d0 : Int) (d1 : Int) (d2 : Int) => (⟨[(0, aI d1), (1, aI d2), (2, aI x2), (6, aI 0), (7, aI d0)], []⟩ : St)) (show (1 : Int) = ((1, x0, x1.toNat)).1 from by first | with_reducible rfl | (show x1 = ((x1.toNat : Nat) : Int); omega) | rfl) (show (x0 : Int) = ((1, x0, x1.toNat)).2.1 from by first | with_reducible rfl | (show x1 = ((x1.toNat : Nat) : Int); omega) | rfl) (show (x1 : Int) = ((((1, x0, x1.toNat)).2.2 : Nat) : Int) from by first | with_reducible rfl | (show x1 = ((x1.toNat : Nat) : Int); omega) | rfl)) (by exact ⟨rfl, ⟨(show (0 : Int) ≤ 1 by decide), by dsimp only; omega⟩, ⟨by dsimp only; omega, by dsimp only; omega⟩, by dsimp only; omega⟩) ?_
 intro q a w hok0 h
 have hq := hok0.2
 refine wp_seq (wp_seq ?_)
 refine at_regq [] { ts := [0, 1, 2, 6, 7, 9], os := [] } [] gamOK hT h (by kernel_rfl) trivial fun a w h => then_normal ?_
 refine at_test (decide (((q.2.2 : Nat) : Int) > 0)) h (by kernel_rfl) (fun h1 => ?_) (fun h1 => ?_)
 ·replace h1 : ((q.2.2 : Nat) : Int) > 0 := of_decide_eq_true h1
  refine wp_skip (then_normal (wp_seq (wp_block (wp_seq (wp_seq ?_)))))
  refine at_regq [{}, { hint := some (aI ((q.2.2 % 2 : Nat) : Int)) }] { ts := [0, 1, 2, 6, 7, 14], os := [] } [(AV.p (.c (.v (.int .i64 (IntKind.i64.wrap ((BitVec.ofInt (IntKind.i64).bits ((q.2.2 : Nat) : Int) &&& BitVec.ofInt (IntKind.i64).bits 1).toNat : Int))))) = AV.p (.c (.v (.int .i64 (((q.2.2 % 2 : Nat) : Int))))))] gamOK hT h (by kernel_rfl) ⟨hint_int (by exact and1 (by omega)), trivial⟩ fun a w h => then_normal ?_
  refine at_test (decide (((q.2.2 % 2 : Nat) : Int) = 1)) h (by kernel_rfl) (fun h2 => ?_) (fun h2 => ?_)
  ·replace h2 : ((q.2.2 % 2 : Nat) : Int) = 1 := of_decide_eq_true h2
   refine at_regq [{}, {}, { nw := true }] { ts := [0, 1, 2, 6, 7], os := [] } [I64 (q.1 * q.2.1), (x2 : Int) ≠ 0] gamOK hT h (by kernel_rfl) ⟨⟨by (have hA0 := mul_f q.1 q.2.1; first | omega | (simp only [lsA]; omega) | (simp <;> omega)), by (have hA0 := mul_f q.1 q.2.1; first | omega | (simp only [lsA]; omega) | (simp <;> omega))⟩, (by first | omega | (simp only [lsA]; omega) | (simp <;> omega)), trivial⟩ fun a w h => then_normal ?_
   refine at_regq [{}, {}, { nw := true }] { ts := [0, 1, 2, 6, 7], os := [] } [I64 (q.2.1 * q.2.1), (x2 : Int) ≠ 0] gamOK hT h (by kernel_rfl) ⟨⟨by (have hA0 := mul_f q.2.1 q.2.1; first | omega | (simp only [lsA]; omega) | (simp <;> omega)), by (have hA0 := mul_f q.2.1 q.2.1; first | omega | (simp only [lsA]; omega) | (simp <;> omega))⟩, (by first | omega | (simp only [lsA]; omega) | (simp <;> omega)), trivial⟩ fun a w h => in_normal (then_normal ?_)
   refine at_regq [{}, { hint := some (aI ((q.2.2 / 2 : Nat) : Int)) }] { ts := [0, 1, 2, 6, 7], os := [] } [(0 : Int) ≤ 1, (AV.p (.c (.v (.int .i64 ((Int.fdiv ((q.2.2 : Nat) : Int) (2 ^ (min (1 : Int).toNat (IntKind.i64).bits))))))) = AV.p (.c (.v (.int .i64 (((q.2.2 / 2 : Nat) : Int))))))] gamOK hT h (by kernel_rfl) ⟨(by first | omega | (simp only [lsA]; omega) | (simp <;> omega)), hint_int (by exact shr1), trivial⟩ fun a w h => ?_
   replace h := at_out (σ' := ⟨[(0, aI (Int.tmod (q.2.1 * q.2.1) x2)), (1, aI ((q.2.2 / 2 : Nat) : Int)), (2, aI x2), (6, aI 0), (7, aI (Int.tmod (q.1 * q.2.1) x2))], []⟩) { ts := [0, 1, 2, 6, 7], os := [] } h (by kernel_rfl)
   exact ⟨((q.1 * q.2.1).tmod x2, (q.2.1 * q.2.1).tmod x2, q.2.2 / 2), at_eq h (st_congr3 (fun (d0 : Int) (d1 : Int) (d2 : Int) => (⟨[(0, aI d1), (1, aI d2), (2, aI x2), (6, aI 0), (7, aI d0)], []⟩ : St)) (show ((Int.tmod (q.1 * q.2.1) x2) : Int) = (((q.1 * q.2.1).tmod x2, (q.2.1 * q.2.1).tmod x2, q.2.2 / 2)).1 from by first | with_reducible rfl | (rfl) | rfl) (show ((Int.tmod (q.2.1 * q.2.1) x2) : Int) = (((q.1 * q.2.1).tmod x2, (q.2.1 * q.2.1).tmod x2, q.2.2 / 2)).2.1 from by first | with_reducible rfl | (rfl) | rfl) (show (((q.2.2 / 2 : Nat) : Int) : Int) = (((((q.1 * q.2.1).tmod x2, (q.2.1 * q.2.1).tmod x2, q.2.2 / 2)).2.2 : Nat) : Int) from by first | with_reducible rfl | (rfl) | rfl)), (by first | exact powOK_odd hok0 (by omega) (by omega) | exact powOK_even hok0 (by omega) (by omega) (by omega)), (by dsimp only; omega)⟩
  ·replace h2 : ¬ (((q.2.2 % 2 : Nat) : Int) = 1) := of_decide_eq_false h2
   refine wp_skip (then_normal ?_)
   refine at_regq [{}, {}, { nw := true }] { ts := [0, 1, 2, 6, 7], os := [] } [I64 (q.2.1 * q.2.1), (x2 : Int) ≠ 0] gamOK hT h (by kernel_rfl) ⟨⟨by (have hA0 := mul_f q.2.1 q.2.1; first | omega | (simp only [lsA]; omega) | (simp <;> omega)), by (have hA0 := mul_f q.2.1 q.2.1; first | omega | (simp only [lsA]; omega) | (simp <;> omega))⟩, (by first | omega | (simp only [lsA]; omega) | (simp <;> omega)), trivial⟩ fun a w h => in_normal (then_normal ?_)
   refine at_regq [{}, { hint := some (aI ((q.2.2 / 2 : Nat) : Int)) }] { ts := [0, 1, 2, 6, 7], os := [] } [(0 : Int) ≤ 1, (AV.p (.c (.v (.int .i64 ((Int.fdiv ((q.2.2 : Nat) : Int) (2 ^ (min (1 : Int).toNat (IntKind.i64).bits))))))) = AV.p (.c (.v (.int .i64 (((q.2.2 / 2 : Nat) : Int))))))] gamOK hT h (by kernel_rfl) ⟨(by first | omega | (simp only [lsA]; omega) | (simp <;> omega)), hint_int (by exact shr1), trivial⟩ fun a w h => ?_
   replace h := at_out (σ' := ⟨[(0, aI (Int.tmod (q.2.1 * q.2.1) x2)), (1, aI ((q.2.2 / 2 : Nat) : Int)), (2, aI x2), (6, aI 0), (7, aI q.1)], []⟩) { ts := [0, 1, 2, 6, 7], os := [] } h (by kernel_rfl)
   exact ⟨(q.1, (q.2.1 * q.2.1).tmod x2, q.2.2 / 2), at_eq h (st_congr3 (fun (d0 : Int) (d1 : Int) (d2 : Int) => (⟨[(0, aI d1), (1, aI d2), (2, aI x2), (6, aI 0), (7, aI d0)], []⟩ : St)) (show (q.1 : Int) = ((q.1, (q.2.1 * q.2.1).tmod x2, q.2.2 / 2)).1 from by first | with_reducible rfl | (rfl) | rfl) (show ((Int.tmod (q.2.1 * q.2.1) x2) : Int) = ((q.1, (q.2.1 * q.2.1).tmod x2, q.2.2 / 2)).2.1 from by first | with_reducible rfl | (rfl) | rfl) (show (((q.2.2 / 2 : Nat) : Int) : Int) = ((((q.1, (q.2.1 * q.2.1).tmod x2, q.2.2 / 2)).2.2 : Nat) : Int) from by first | with_reducible rfl | (rfl) | rfl)), (by first | exact powOK_odd hok0 (by omega) (by omega) | exact powOK_even hok0 (by omega) (by omega) (by omega)), (by dsimp only; omega)⟩
 ·replace h1 : ¬ (((q.2.2 : Nat) : Int) > 0) := of_decide_eq_false h1
  refine wp_exit (then_exit (then_exit (in_hit (then_normal (wp_seq ?_)))))
  refine at_regq [] { ts := [6], os := [] } [] gamOK hT h (by kernel_rfl) trivial fun a w h => then_normal (wp_ret ?_)
  exact at_return (q.1, ()) [] h (by kernel_rfl) trivial (congrArg (fun z => (z, ())) (show (q.1) = powD x0 x1 x2 from by (have e := hok0.1; rw [show q.2.2 = 0 by omega, LA.pmL_zero] at e; exact e)))

def S_spec_l4Pow : Sum := { fid := 163, dom := [(.int 3), (.int 3), (.int 3)], cod := [(.int 3)], dp := true, fz := false, pre := fun x => powP x.1 x.2.1 x.2.2.1, g := fun x => ((powD x.1 x.2.1 x.2.2.1), ()) }
def S_spec_l4Pow_tab : List (Nat × Sum) := []
theorem S_spec_l4Pow_ok : FnOK Try.prog 163 S_spec_l4Pow := by
 refine at_enter 26 (fun x => ⟨[(0, aI x.1), (1, aI x.2.1), (2, aI x.2.2.1)], []⟩) Try.func163 rfl (by kernel_rfl) (fun x => rfl) ?_
 rintro w0 Z0 ⟨x0, x1, x2, u⟩ a w
 revert x0 x1 x2
 intro (x0 : Int) (x1 : Int) (x2 : Int) hpre hlens h
 replace hpre : powP x0 x1 x2 := hpre
 have hT : TabOK Try.prog S_spec_l4Pow_tab := .nil
 have hp : (0 ≤ x0 ∧ x0 < x2) ∧ (0 ≤ x1 ∧ x1 ≤ 4611686018427387904) ∧ 1 < x2 ∧ x2 ≤ 1048576 := hpre
 refine wp_seq ?_
 refine at_regq [] { ts := [0, 1, 2, 6], os := [] } [] gamOK hT h (by kernel_rfl) trivial fun a w h => then_normal (wp_seq ?_)
 refine at_regq [] { ts := [0, 1, 2, 6, 7], os := [] } [] gamOK hT h (by kernel_rfl) trivial fun a w h => then_normal (wp_seq (wp_block ?_))
 replace h := at_out (σ' := ⟨[(0, aI x0), (1, aI x1), (2, aI x2), (6, aI 0), (7, aI 1)], []⟩) { ts := [0, 1, 2, 6, 7], os := [] } h (by kernel_rfl)
 refine at_loop (fun q : (Int × Int × Nat) => (⟨[(0, aI q.2.1), (1, aI ((q.2.2 : Nat) : Int)), (2, aI x2), (6, aI 0), (7, aI q.1)], []⟩ : St)) (fun q => powOK x0 x1 x2 q) (fun q => q.2.2) ((1, x0, x1.toNat)) h (st_congr3 (fun (d0 : Int) (d1 : Int) (d2 : Int) => (⟨[(0, aI d1), (1, aI d2), (2, aI x2), (6, aI 0), (7, aI d0)], []⟩ : St)) (show (1 : Int) = ((1, x0, x1.toNat)).1 from by first | with_reducible rfl | (show x1 = ((x1.toNat : Nat) : Int); omega) | rfl) (show (x0 : Int) = ((1, x0, x1.toNat)).2.1 from by first | with_reducible rfl | (show x1 = ((x1.toNat : Nat) : Int); omega) | rfl) (show (x1 : Int) = ((((1, x0, x1.toNat)).2.2 : Nat) : Int) from by first | with_reducible rfl | (show x1 = ((x1.toNat : Nat) : Int); omega) | rfl)) (by exact ⟨rfl, ⟨(show (0 : Int) ≤ 1 by decide), by dsimp only; omega⟩, ⟨by dsimp only; omega, by dsimp only; omega⟩, by dsimp only; omega⟩) ?_
 intro q a w hok0 h
 have hq := hok0.2
 refine wp_seq (wp_seq ?_)
 refine at_regq [] { ts := [0, 1, 2, 6, 7, 9], os := [] } [] gamOK hT h (by kernel_rfl) trivial fun a w h => then_normal ?_
 refine at_test (decide (((q.2.2 : Nat) : Int) > 0)) h (by kernel_rfl) (fun h1 => ?_) (fun h1 => ?_)
 ·replace h1 : ((q.2.2 : Nat) : Int) > 0 := of_decide_eq_true h1
  refine wp_skip (then_normal (wp_block (wp_seq (wp_seq ?_))))
  refine at_regq [{}, { hint := some (aI ((q.2.2 % 2 : Nat) : Int)) }] { ts := [0, 1, 2, 6, 7, 12], os := [] } [(AV.p (.c (.v (.int .i64 (IntKind.i64.wrap ((BitVec.ofInt (IntKind.i64).bits ((q.2.2 : Nat) : Int) &&& BitVec.ofInt (IntKind.i64).bits 1).toNat : Int))))) = AV.p (.c (.v (.int .i64 (((q.2.2 % 2 : Nat) : Int))))))] gamOK hT h (by kernel_rfl) ⟨hint_int (by exact and1 (by omega)), trivial⟩ fun a w h => then_normal ?_
  refine at_test (decide (((q.2.2 % 2 : Nat) : Int) = 1)) h (by kernel_rfl) (fun h2 => ?_) (fun h2 => ?_)
  ·replace h2 : ((q.2.2 % 2 : Nat) : Int) = 1 := of_decide_eq_true h2
   refine at_regq [{}, {}, { nw := true }] { ts := [0, 1, 2, 6, 7], os := [] } [I64 (q.1 * q.2.1), (x2 : Int) ≠ 0] gamOK hT h (by kernel_rfl) ⟨⟨by (have hA0 := mul_f q.1 q.2.1; first | omega | (simp only [lsA]; omega) | (simp <;> omega)), by (have hA0 := mul_f q.1 q.2.1; first | omega | (simp only [lsA]; omega) | (simp <;> omega))⟩, (by first | omega | (simp only [lsA]; omega) | (simp <;> omega)), trivial⟩ fun a w h => then_normal (wp_seq ?_)
   refine at_regq [{}, {}, { nw := true }] { ts := [0, 1, 2, 6, 7], os := [] } [I64 (q.2.1 * q.2.1), (x2 : Int) ≠ 0] gamOK hT h (by kernel_rfl) ⟨⟨by (have hA0 := mul_f q.2.1 q.2.1; first | omega | (simp only [lsA]; omega) | (simp <;> omega)), by (have hA0 := mul_f q.2.1 q.2.1; first | omega | (simp only [lsA]; omega) | (simp <;> omega))⟩, (by first | omega | (simp only [lsA]; omega) | (simp <;> omega)), trivial⟩ fun a w h => then_normal ?_
   refine at_regq [{}, { hint := some (aI ((q.2.2 / 2 : Nat) : Int)) }] { ts := [0, 1, 2, 6, 7], os := [] } [(0 : Int) ≤ 1, (AV.p (.c (.v (.int .i64 ((Int.fdiv ((q.2.2 : Nat) : Int) (2 ^ (min (1 : Int).toNat (IntKind.i64).bits))))))) = AV.p (.c (.v (.int .i64 (((q.2.2 / 2 : Nat) : Int))))))] gamOK hT h (by kernel_rfl) ⟨(by first | omega | (simp only [lsA]; omega) | (simp <;> omega)), hint_int (by exact shr1), trivial⟩ fun a w h => in_normal ?_
   replace h := at_out (σ' := ⟨[(0, aI (Int.tmod (q.2.1 * q.2.1) x2)), (1, aI ((q.2.2 / 2 : Nat) : Int)), (2, aI x2), (6, aI 0), (7, aI (Int.tmod (q.1 * q.2.1) x2))], []⟩) { ts := [0, 1, 2, 6, 7], os := [] } h (by kernel_rfl)
   exact ⟨((q.1 * q.2.1).tmod x2, (q.2.1 * q.2.1).tmod x2, q.2.2 / 2), at_eq h (st_congr3 (fun (d0 : Int) (d1 : Int) (d2 : Int) => (⟨[(0, aI d1), (1, aI d2), (2, aI x2), (6, aI 0), (7, aI d0)], []⟩ : St)) (show ((Int.tmod (q.1 * q.2.1) x2) : Int) = (((q.1 * q.2.1).tmod x2, (q.2.1 * q.2.1).tmod x2, q.2.2 / 2)).1 from by first | with_reducible rfl | (rfl) | rfl) (show ((Int.tmod (q.2.1 * q.2.1) x2) : Int) = (((q.1 * q.2.1).tmod x2, (q.2.1 * q.2.1).tmod x2, q.2.2 / 2)).2.1 from by first | with_reducible rfl | (rfl) | rfl) (show (((q.2.2 / 2 : Nat) : Int) : Int) = (((((q.1 * q.2.1).tmod x2, (q.2.1 * q.2.1).tmod x2, q.2.2 / 2)).2.2 : Nat) : Int) from by first | with_reducible rfl | (rfl) | rfl)), (by first | exact powOK_odd hok0 (by omega) (by omega) | exact powOK_even hok0 (by omega) (by omega) (by omega)), (by dsimp only; omega)⟩
  ·replace h2 : ¬ (((q.2.2 % 2 : Nat) : Int) = 1) := of_decide_eq_false h2
   refine wp_skip (then_normal (wp_seq ?_))
   refine at_regq [{}, {}, { nw := true }] { ts := [0, 1, 2, 6, 7], os := [] } [I64 (q.2.1 * q.2.1), (x2 : Int) ≠ 0] gamOK hT h (by kernel_rfl) ⟨⟨by (have hA0 := mul_f q.2.1 q.2.1; first | omega | (simp only [lsA]; omega) | (simp <;> omega)), by (have hA0 := mul_f q.2.1 q.2.1; first | omega | (simp only [lsA]; omega) | (simp <;> omega))⟩, (by first | omega | (simp only [lsA]; omega) | (simp <;> omega)), trivial⟩ fun a w h => then_normal ?_
   refine at_regq [{}, { hint := some (aI ((q.2.2 / 2 : Nat) : Int)) }] { ts := [0, 1, 2, 6, 7], os := [] } [(0 : Int) ≤ 1, (AV.p (.c (.v (.int .i64 ((Int.fdiv ((q.2.2 : Nat) : Int) (2 ^ (min (1 : Int).toNat (IntKind.i64).bits))))))) = AV.p (.c (.v (.int .i64 (((q.2.2 / 2 : Nat) : Int))))))] gamOK hT h (by kernel_rfl) ⟨(by first | omega | (simp only [lsA]; omega) | (simp <;> omega)), hint_int (by exact shr1), trivial⟩ fun a w h => in_normal ?_
   replace h := at_out (σ' := ⟨[(0, aI (Int.tmod (q.2.1 * q.2.1) x2)), (1, aI ((q.2.2 / 2 : Nat) : Int)), (2, aI x2), (6, aI 0), (7, aI q.1)], []⟩) { ts := [0, 1, 2, 6, 7], os := [] } h (by kernel_rfl)
   exact ⟨(q.1, (q.2.1 * q.2.1).tmod x2, q.2.2 / 2), at_eq h (st_congr3 (fun (d0 : Int) (d1 : Int) (d2 : Int) => (⟨[(0, aI d1), (1, aI d2), (2, aI x2), (6, aI 0), (7, aI d0)], []⟩ : St)) (show (q.1 : Int) = ((q.1, (q.2.1 * q.2.1).tmod x2, q.2.2 / 2)).1 from by first | with_reducible rfl | (rfl) | rfl) (show ((Int.tmod (q.2.1 * q.2.1) x2) : Int) = ((q.1, (q.2.1 * q.2.1).tmod x2, q.2.2 / 2)).2.1 from by first | with_reducible rfl | (rfl) | rfl) (show (((q.2.2 / 2 : Nat) : Int) : Int) = ((((q.1, (q.2.1 * q.2.1).tmod x2, q.2.2 / 2)).2.2 : Nat) : Int) from by first | with_reducible rfl | (rfl) | rfl)), (by first | exact powOK_odd hok0 (by omega) (by omega) | exact powOK_even hok0 (by omega) (by omega) (by omega)), (by dsimp only; omega)⟩
 ·replace h1 : ¬ (((q.2.2 : Nat) : Int) > 0) := of_decide_eq_false h1
  refine wp_exit (then_exit (then_exit (in_hit (then_normal (wp_seq ?_)))))
  refine at_regq [] { ts := [6], os := [] } [] gamOK hT h (by kernel_rfl) trivial fun a w h => then_normal (wp_ret ?_)
  exact at_return (q.1, ()) [] h (by kernel_rfl) trivial (congrArg (fun z => (z, ())) (show (q.1) = powD x0 x1 x2 from by (have e := hok0.1; rw [show q.2.2 = 0 by omega, LA.pmL_zero] at e; exact e)))

def powF (x0 : Int) (x1 : Int) : Int := (if (isEl x0) = true then (if (inR x1 0 1000000000000) = true then (powD x0 x1 1019) else 0) else 0)
def S_impl_PowField : Sum := { fid := 169, dom := [(.int 3), (.int 3)], cod := [(.int 3)], dp := true, fz := false, pre := fun x => True, g := fun x => ((powF x.1 x.2.1), ()) }
def S_impl_PowField_tab : List (Nat × Sum) := [(68, S_impl_IsElement), (51, S_impl_InRange), (106, S_impl_powMod)]
theorem S_impl_PowField_ok : FnOK Try.prog 169 S_impl_PowField := by
 refine at_enter 16 (fun x => ⟨[(0, aI x.1), (1, aI x.2.1)], []⟩) Try.func169 rfl (by kernel_rfl) (fun x => rfl) ?_
 rintro w0 Z0 ⟨x0, x1, u⟩ a w
 revert x0 x1
 intro (x0 : Int) (x1 : Int) hpre hlens h
 have hT : TabOK Try.prog S_impl_PowField_tab := (.cons S_impl_IsElement_ok (.cons S_impl_InRange_ok (.cons S_impl_powMod_ok .nil)))
 refine wp_seq ?_
 refine at_regq [] { ts := [0, 1, 4], os := [] } [] gamOK hT h (by kernel_rfl) trivial fun a w h => then_normal (wp_seq (wp_seq ?_))
 rcases Bool.eq_false_or_eq_true (!(isEl x0)) with h1 | h1
 ·have hzh1 : (isEl x0) = false := notT h1
  refine at_regq [{}, {}, { hint := some (aB true) }] { ts := [0, 1, 4, 12], os := [] } [True, (AV.p (.c (.v (.bool (!(isEl x0))))) = AV.p (.c (.v (.bool true))))] gamOK hT h (by kernel_rfl) ⟨trivial, hint_bool (h1), trivial⟩ fun a w h => then_normal ?_
  refine at_test true h (by kernel_rfl) (fun hh => ?_) (fun hh => nomatch hh)
  refine wp_seq ?_
  refine at_regq [] { ts := [0, 1, 4], os := [] } [] gamOK hT h (by kernel_rfl) trivial fun a w h => then_normal (wp_ret (then_ret ?_))
  exact at_return (0, ()) [] h (by kernel_rfl) trivial (congrArg (fun z => (z, ())) (show (0) = powF x0 x1 from by first | rfl | (unfold powF; rw [if_neg (neT (notT h1))])))
 ·have hzh1 : (isEl x0) = true := notF h1
  have hvh1 := isEl_t (notF h1)
  refine at_regq [{}, {}, { hint := some (aB false) }] { ts := [0, 1, 4, 12], os := [] } [True, (AV.p (.c (.v (.bool (!(isEl x0))))) = AV.p (.c (.v (.bool false)))), True] gamOK hT h (by kernel_rfl) ⟨trivial, hint_bool (h1), trivial, trivial⟩ fun a w h => then_normal ?_
  refine at_test (!(inR x1 0 1000000000000)) h (by kernel_rfl) (fun h2 => ?_) (fun h2 => ?_)
  ·replace h2 : (inR x1 0 1000000000000) = false := notT h2
   have hvh2 := inR_f h2
   refine wp_seq ?_
   refine at_regq [] { ts := [0, 1, 4], os := [] } [] gamOK hT h (by kernel_rfl) trivial fun a w h => then_normal (wp_ret (then_ret ?_))
   exact at_return (0, ()) [] h (by kernel_rfl) trivial (congrArg (fun z => (z, ())) (show (0) = powF x0 x1 from by first | rfl | (unfold powF; rw [if_pos (notF h1), if_neg (neT h2)])))
  ·replace h2 : (inR x1 0 1000000000000) = true := notF h2
   have hvh2 := inR_t h2
   refine wp_skip (then_normal (wp_seq ?_))
   refine at_regq [] { ts := [4], os := [] } [powP x0 x1 1019] gamOK hT h (by kernel_rfl) ⟨(by (show _ ∧ _; refine ⟨⟨?_, ?_⟩, ⟨?_, ?_⟩, ?_, ?_⟩ <;> omega)), trivial⟩ fun a w h => then_normal (wp_ret ?_)
   exact at_return ((powD x0 x1 1019), ()) [] h (by kernel_rfl) trivial (congrArg (fun z => (z, ())) (show ((powD x0 x1 1019)) = powF x0 x1 from by first | rfl | (unfold powF; rw [if_pos (notF h1), if_pos h2])))

def S_impl_InverseField : Sum := { fid := 138, dom := [(.int 3)], cod := [(.int 3)], dp := true, fz := false, pre := fun x => True, g := fun x => ((invF x.1), ()) }
def S_impl_InverseField_tab : List (Nat × Sum) := [(169, S_impl_PowField)]
theorem S_impl_InverseField_ok : FnOK Try.prog 138 S_impl_InverseField := by
 refine at_enter 5 (fun x => ⟨[(0, aI x.1)], []⟩) Try.func138 rfl (by kernel_rfl) (fun x => rfl) ?_
 rintro w0 Z0 ⟨x0, u⟩ a w
 revert x0
 intro (x0 : Int) hpre hlens h
 have hT : TabOK Try.prog S_impl_InverseField_tab := (.cons S_impl_PowField_ok .nil)
 refine wp_seq ?_
 refine at_regq [] { ts := [0, 2], os := [] } [] gamOK hT h (by kernel_rfl) trivial fun a w h => then_normal (wp_seq ?_)
 refine at_regq [] { ts := [2], os := [] } [True] gamOK hT h (by kernel_rfl) ⟨trivial, trivial⟩ fun a w h => then_normal (wp_ret ?_)
 exact at_return ((powF x0 1017), ()) [] h (by kernel_rfl) trivial (congrArg (fun z => (z, ())) (show ((powF x0 1017)) = invF x0 from by (unfold invF powF LA.invS powD; rfl)))

def S_spec_InverseField : Sum := { fid := 184, dom := [(.int 3)], cod := [(.int 3)], dp := true, fz := false, pre := fun x => True, g := fun x => ((invF x.1), ()) }
def S_spec_InverseField_tab : List (Nat × Sum) := [(86, S_spec_IsElement), (163, S_spec_l4Pow)]
theorem S_spec_InverseField_ok : FnOK Try.prog 184 S_spec_InverseField := by
 refine at_enter 12 (fun x => ⟨[(0, aI x.1)], []⟩) Try.func184 rfl (by kernel_rfl) (fun x => rfl) ?_
 rintro w0 Z0 ⟨x0, u⟩ a w
 revert x0
 intro (x0 : Int) hpre hlens h
 have hT : TabOK Try.prog S_spec_InverseField_tab := (.cons S_spec_IsElement_ok (.cons S_spec_l4Pow_ok .nil))
 refine wp_seq ?_
 refine at_regq [] { ts := [0, 2], os := [] } [] gamOK hT h (by kernel_rfl) trivial fun a w h => then_normal (wp_seq (wp_seq ?_))
 rcases Bool.eq_false_or_eq_true (!(isEl x0)) with h1 | h1
 ·have hzh1 : (isEl x0) = false := notT h1
  refine at_regq [{}, {}, { hint := some (aB true) }] { ts := [0, 2, 9], os := [] } [True, (AV.p (.c (.v (.bool (!(isEl x0))))) = AV.p (.c (.v (.bool true))))] gamOK hT h (by kernel_rfl) ⟨trivial, hint_bool (h1), trivial⟩ fun a w h => then_normal ?_
  refine at_test true h (by kernel_rfl) (fun hh => ?_) (fun hh => nomatch hh)
  refine wp_seq ?_
  refine at_regq [] { ts := [0, 2], os := [] } [] gamOK hT h (by kernel_rfl) trivial fun a w h => then_normal (wp_ret (then_ret ?_))
  exact at_return (0, ()) [] h (by kernel_rfl) trivial (congrArg (fun z => (z, ())) (show (0) = invF x0 from by (unfold invF; first | (rw [if_pos (show isEl x0 = true by first | assumption | simpa using h1)]; first | rfl | (rw [show x0 = 0 by assumption, invS_zero])) | (rw [if_neg (by simp_all)]))))
 ·have hzh1 : (isEl x0) = true := notF h1
  have hvh1 := isEl_t (notF h1)
  refine at_regq [{}, {}, { hint := some (aB false) }] { ts := [0, 2, 9], os := [] } [True, (AV.p (.c (.v (.bool (!(isEl x0))))) = AV.p (.c (.v (.bool false))))] gamOK hT h (by kernel_rfl) ⟨trivial, hint_bool (h1), trivial⟩ fun a w h => then_normal ?_
  refine at_test (decide (x0 = 0)) h (by kernel_rfl) (fun h2 => ?_) (fun h2 => ?_)
  ·replace h2 : x0 = 0 := of_decide_eq_true h2
   refine wp_seq ?_
   refine at_regq [] { ts := [0, 2], os := [] } [] gamOK hT h (by kernel_rfl) trivial fun a w h => then_normal (wp_ret (then_ret ?_))
   exact at_return (0, ()) [] h (by kernel_rfl) trivial (congrArg (fun z => (z, ())) (show (0) = invF x0 from by (unfold invF; first | (rw [if_pos (show isEl x0 = true by first | assumption | simpa using h1)]; first | rfl | (rw [show x0 = 0 by assumption, invS_zero])) | (rw [if_neg (by simp_all)]))))
  ·replace h2 : ¬ (x0 = 0) := of_decide_eq_false h2
   refine wp_skip (then_normal (wp_seq ?_))
   refine at_regq [] { ts := [2], os := [] } [powP x0 1017 1019] gamOK hT h (by kernel_rfl) ⟨(by (show _ ∧ _; refine ⟨⟨?_, ?_⟩, ⟨?_, ?_⟩, ?_, ?_⟩ <;> omega)), trivial⟩ fun a w h => then_normal (wp_ret ?_)
   exact at_return ((powD x0 1017 1019), ()) [] h (by kernel_rfl) trivial (congrArg (fun z => (z, ())) (show ((powD x0 1017 1019)) = invF x0 from by (unfold invF; first | (rw [if_pos (show isEl x0 = true by first | assumption | simpa using h1)]; first | rfl | (rw [show x0 = 0 by assumption, invS_zero])) | (rw [if_neg (by simp_all)]))))

def subF (x0 : Int) (x1 : Int) : Int := (if (D_spec_l4Both x0 x1) = true then (Int.tmod ((x0 - x1) + 1019) 1019) else 0)
def S_spec_SubField : Sum := { fid := 175, dom := [(.int 3), (.int 3)], cod := [(.int 3)], dp := true, fz := false, pre := fun x => True, g := fun x => ((subF x.1 x.2.1), ()) }
def S_spec_SubField_tab : List (Nat × Sum) := [(185, S_spec_l4Both)]
theorem S_spec_SubField_ok : FnOK Try.prog 175 S_spec_SubField := by
 refine at_enter 14 (fun x => ⟨[(0, aI x.1), (1, aI x.2.1)], []⟩) Try.func175 rfl (by kernel_rfl) (fun x => rfl) ?_
 rintro w0 Z0 ⟨x0, x1, u⟩ a w
 revert x0 x1
 intro (x0 : Int) (x1 : Int) hpre hlens h
 have hT : TabOK Try.prog S_spec_SubField_tab := (.cons S_spec_l4Both_ok .nil)
 refine wp_seq ?_
 refine at_regq [] { ts := [0, 1, 4], os := [] } [] gamOK hT h (by kernel_rfl) trivial fun a w h => then_normal (wp_seq (wp_seq ?_))
 refine at_regq [] { ts := [0, 1, 4, 8], os := [] } [True] gamOK hT h (by kernel_rfl) ⟨trivial, trivial⟩ fun a w h => then_normal ?_
 refine at_test (!(D_spec_l4Both x0 x1)) h (by kernel_rfl) (fun h1 => ?_) (fun h1 => ?_)
 ·replace h1 : (D_spec_l4Both x0 x1) = false := notT h1
  refine wp_seq ?_
  refine at_regq [] { ts := [0, 1, 4], os := [] } [] gamOK hT h (by kernel_rfl) trivial fun a w h => then_normal (wp_ret (then_ret ?_))
  exact at_return (0, ()) [] h (by kernel_rfl) trivial (congrArg (fun z => (z, ())) (show (0) = subF x0 x1 from by first | rfl | (unfold subF; rw [if_neg (neT h1)])))
 ·replace h1 : (D_spec_l4Both x0 x1) = true := notF h1
  have hvh1 := l4Both_t h1
  refine wp_skip (then_normal (wp_seq ?_))
  refine at_regq [{}, {}, { nw := true }, { nw := true }] { ts := [4], os := [] } [I64 (x0 - x1), I64 ((x0 - x1) + 1019), (1019 : Int) ≠ 0] gamOK hT h (by kernel_rfl) ⟨⟨by first | omega | (simp only [lsA]; omega) | (simp <;> omega), by first | omega | (simp only [lsA]; omega) | (simp <;> omega)⟩, ⟨by first | omega | (simp only [lsA]; omega) | (simp <;> omega), by first | omega | (simp only [lsA]; omega) | (simp <;> omega)⟩, (by first | omega | (simp only [lsA]; omega) | (simp <;> omega)), trivial⟩ fun a w h => then_normal (wp_ret ?_)
  exact at_return ((Int.tmod ((x0 - x1) + 1019) 1019), ()) [] h (by kernel_rfl) trivial (congrArg (fun z => (z, ())) (show ((Int.tmod ((x0 - x1) + 1019) 1019)) = subF x0 x1 from by first | rfl | (unfold subF; rw [if_pos h1])))

def S_impl_SubField : Sum := { fid := 178, dom := [(.int 3), (.int 3)], cod := [(.int 3)], dp := true, fz := false, pre := fun x => True, g := fun x => ((subF x.1 x.2.1), ()) }
def S_impl_SubField_tab : List (Nat × Sum) := [(68, S_impl_IsElement)]
theorem S_impl_SubField_ok : FnOK Try.prog 178 S_impl_SubField := by
 refine at_enter 18 (fun x => ⟨[(0, aI x.1), (1, aI x.2.1)], []⟩) Try.func178 rfl (by kernel_rfl) (fun x => rfl) ?_
 rintro w0 Z0 ⟨x0, x1, u⟩ a w
 revert x0 x1
 intro (x0 : Int) (x1 : Int) hpre hlens h
 have hT : TabOK Try.prog S_impl_SubField_tab := (.cons S_impl_IsElement_ok .nil)
 refine wp_seq ?_
 refine at_regq [] { ts := [0, 1, 4], os := [] } [] gamOK hT h (by kernel_rfl) trivial fun a w h => then_normal (wp_seq (wp_seq ?_))
 rcases Bool.eq_false_or_eq_true (!(isEl x0)) with h1 | h1
 ·have hzh1 : (isEl x0) = false := notT h1
  refine at_regq [{}, {}, { hint := some (aB true) }] { ts := [0, 1, 4, 12], os := [] } [True, (AV.p (.c (.v (.bool (!(isEl x0))))) = AV.p (.c (.v (.bool true))))] gamOK hT h (by kernel_rfl) ⟨trivial, hint_bool (h1), trivial⟩ fun a w h => then_normal ?_
  refine at_test true h (by kernel_rfl) (fun hh => ?_) (fun hh => nomatch hh)
  refine wp_seq ?_
  refine at_regq [] { ts := [0, 1, 4], os := [] } [] gamOK hT h (by kernel_rfl) trivial fun a w h => then_normal (wp_ret (then_ret ?_))
  exact at_return (0, ()) [] h (by kernel_rfl) trivial (congrArg (fun z => (z, ())) (show (0) = subF x0 x1 from by first | rfl | (unfold subF; rw [if_neg (neT (notT h1))]; done) | (unfold subF; (simp_all [D_spec_l4Both]; try (congr 1; omega)))))
 ·have hzh1 : (isEl x0) = true := notF h1
  have hvh1 := isEl_t (notF h1)
  refine at_regq [{}, {}, { hint := some (aB false) }] { ts := [0, 1, 4, 12], os := [] } [True, (AV.p (.c (.v (.bool (!(isEl x0))))) = AV.p (.c (.v (.bool false)))), True] gamOK hT h (by kernel_rfl) ⟨trivial, hint_bool (h1), trivial, trivial⟩ fun a w h => then_normal ?_
  refine at_test (!(isEl x1)) h (by kernel_rfl) (fun h2 => ?_) (fun h2 => ?_)
  ·replace h2 : (isEl x1) = false := notT h2
   refine wp_seq ?_
   refine at_regq [] { ts := [0, 1, 4], os := [] } [] gamOK hT h (by kernel_rfl) trivial fun a w h => then_normal (wp_ret (then_ret ?_))
   exact at_return (0, ()) [] h (by kernel_rfl) trivial (congrArg (fun z => (z, ())) (show (0) = subF x0 x1 from by first | rfl | (unfold subF; rw [if_pos (notF h1), if_neg (neT h2)]; done) | (unfold subF; (simp_all [D_spec_l4Both]; try (congr 1; omega)))))
  ·replace h2 : (isEl x1) = true := notF h2
   have hvh2 := isEl_t h2
   refine wp_skip (then_normal (wp_seq ?_))
   refine at_regq [{}, { nw := true }, {}, { nw := true }] { ts := [4], os := [] } [I64 (x0 + 1019), I64 ((x0 + 1019) - x1), (1019 : Int) ≠ 0] gamOK hT h (by kernel_rfl) ⟨⟨by first | omega | (simp only [lsA]; omega) | (simp <;> omega), by first | omega | (simp only [lsA]; omega) | (simp <;> omega)⟩, ⟨by first | omega | (simp only [lsA]; omega) | (simp <;> omega), by first | omega | (simp only [lsA]; omega) | (simp <;> omega)⟩, (by first | omega | (simp only [lsA]; omega) | (simp <;> omega)), trivial⟩ fun a w h => then_normal (wp_ret ?_)
   exact at_return ((Int.tmod ((x0 + 1019) - x1) 1019), ()) [] h (by kernel_rfl) trivial (congrArg (fun z => (z, ())) (show ((Int.tmod ((x0 + 1019) - x1) 1019)) = subF x0 x1 from by first | rfl | (unfold subF; rw [if_pos (notF h1), if_pos h2]; done) | (unfold subF; (simp_all [D_spec_l4Both]; try (congr 1; omega)))))

def validV (x0 : (List Int)) : Bool := (if (List.all x0 isEl) = true then decide (((List.length x0 : Nat) : Int) ≤ 40) else false)
abbrev Q_impl_IsValidVector := (fun (x0 : (List Int)) => Sh.fit s27 x0)
def S_impl_IsValidVector : Sum := { fid := 112, dom := [s27], cod := [(.bool 4)], dp := true, fz := false, pre := fun x => Q_impl_IsValidVector x.1, g := fun x => ((validV x.1), ()) }
def S_impl_IsValidVector_tab : List (Nat × Sum) := [(68, S_impl_IsElement)]
theorem S_impl_IsValidVector_ok : FnOK Try.prog 112 S_impl_IsValidVector := by
 refine at_enter 18 (fun x => ⟨[(0, aF (.int 3) x.1)], []⟩) Try.func112 rfl (by kernel_rfl) (fun x => rfl) ?_
 rintro w0 Z0 ⟨x0, u⟩ a w
 revert x0
 intro (x0 : (List Int)) hpre hlens h
 replace hpre : Q_impl_IsValidVector x0 := hpre
 have hT : TabOK Try.prog S_impl_IsValidVector_tab := (.cons S_impl_IsElement_ok .nil)
 have hf0 : Sh.fit s27 x0 := hpre
 have hn0_1 : List.length x0 ≤ 1073741824 := hf0.1
 refine wp_seq ?_
 refine at_regq [] { ts := [0, 2], os := [] } [] gamOK hT h (by kernel_rfl) trivial fun a w h => then_normal (wp_seq (wp_seq ?_))
 refine at_regq [] { ts := [0, 2, 5, 6, 7], os := [] } [] gamOK hT h (by kernel_rfl) trivial fun a w h => then_normal (wp_block ?_)
 replace h := at_out (σ' := ⟨[(0, aF (.int 3) x0), (2, aB false), (5, aF (.int 3) x0), (6, aI ((List.length x0 : Nat) : Int)), (7, aI 0)], []⟩) { ts := [0, 2, 5, 6, 7], os := [] } h (by kernel_rfl)
 refine at_loop (fun i : Nat => (⟨[(0, aF (.int 3) x0), (2, aB false), (5, aF (.int 3) x0), (6, aI ((List.length x0 : Nat) : Int)), (7, aI ((i : Nat) : Int))], []⟩ : St)) (fun i => (i ≤ List.length x0 ∧ allTo1 isEl x0 0 i)) (fun i => List.length x0 - i) (0) h (st_congr1 (fun (d0 : Int) => (⟨[(0, aF (.int 3) x0), (2, aB false), (5, aF (.int 3) x0), (6, aI ((List.length x0 : Nat) : Int)), (7, aI d0)], []⟩ : St)) (show (0 : Int) = (((0) : Nat) : Int) from by first | with_reducible rfl | (rfl) | rfl)) (by exact ⟨Nat.zero_le _, allTo1_zero⟩) ?_
 intro i a w hok0 h
 refine wp_seq ?_
 refine at_regq [] { ts := [0, 2, 5, 6, 7, 8], os := [] } [] gamOK hT h (by kernel_rfl) trivial fun a w h => then_normal (wp_seq ?_)
 refine at_test (decide (((i : Nat) : Int) < ((List.length x0 : Nat) : Int))) h (by kernel_rfl) (fun h1 => ?_) (fun h1 => ?_)
 ·replace h1 : ((i : Nat) : Int) < ((List.length x0 : Nat) : Int) := of_decide_eq_true h1
  refine wp_skip (then_normal (wp_seq (wp_block (wp_seq ?_))))
  refine at_regq [] { ts := [0, 2, 4, 5, 6, 7], os := [] } [(0 : Int) ≤ ((i : Nat) : Int) ∧ ((i : Nat) : Int) < ((List.length x0 : Nat) : Int)] gamOK hT h (by kernel_rfl) ⟨(by refine ⟨?_, ?_⟩ <;> (first | omega | (simp only [lsA]; omega) | (simp <;> omega))), trivial⟩ fun a w h => then_normal (wp_seq ?_)
  refine at_regq [] { ts := [0, 2, 5, 6, 7, 13], os := [] } [True] gamOK hT h (by kernel_rfl) ⟨trivial, trivial⟩ fun a w h => then_normal ?_
  refine at_test (!(isEl (x0.getD i 0))) h (by kernel_rfl) (fun h2 => ?_) (fun h2 => ?_)
  ·replace h2 : (isEl (x0.getD i 0)) = false := notT h2
   refine wp_seq ?_
   refine at_regq [] { ts := [0, 2, 5, 6, 7], os := [] } [] gamOK hT h (by kernel_rfl) trivial fun a w h => then_normal (wp_ret (in_ret (then_ret ?_)))
   have hs3 : (List.all x0 isEl) = false := by exact all_at (z := 0) (i := i) (by omega) (by first | assumption | (simp_all; done))
   refine then_ret (in_ret (then_ret ?_))
   exact at_return (false, ()) [] h (by kernel_rfl) trivial (congrArg (fun z => (z, ())) (show (false) = validV x0 from by first | rfl | (unfold validV; rw [if_neg (neT hs3)])))
  ·replace h2 : (isEl (x0.getD i 0)) = true := notF h2
   have hvh2 := isEl_t h2
   refine wp_skip (in_normal (then_normal ?_))
   refine at_regq [{ nw := true }] { ts := [0, 2, 5, 6, 7], os := [] } [I64 (((i : Nat) : Int) + 1)] gamOK hT h (by kernel_rfl) ⟨⟨by first | omega | (simp only [lsA]; omega) | (simp <;> omega), by first | omega | (simp only [lsA]; omega) | (simp <;> omega)⟩, trivial⟩ fun a w h => ?_
   replace h := at_out (σ' := ⟨[(0, aF (.int 3) x0), (2, aB false), (5, aF (.int 3) x0), (6, aI ((List.length x0 : Nat) : Int)), (7, aI (((i : Nat) : Int) + 1))], []⟩) { ts := [0, 2, 5, 6, 7], os := [] } h (by kernel_rfl)
   exact ⟨i + 1, at_eq h (st_congr1 (fun (d0 : Int) => (⟨[(0, aF (.int 3) x0), (2, aB false), (5, aF (.int 3) x0), (6, aI ((List.length x0 : Nat) : Int)), (7, aI d0)], []⟩ : St)) (show (((i : Nat) : Int) + 1 : Int) = (((i + 1) : Nat) : Int) from by first | with_reducible rfl | (omega) | rfl)), (by exact ⟨by omega, allTo1_succ hok0.2 (by first | assumption | (simp_all; done))⟩), (by omega)⟩
 ·replace h1 : ¬ (((i : Nat) : Int) < ((List.length x0 : Nat) : Int)) := of_decide_eq_false h1
  refine wp_exit (then_exit ?_)
  have hs4 : (List.all x0 isEl) = true := by exact all_of (z := 0) (i := i) (by omega) hok0.2
  refine then_exit (in_hit (then_normal (wp_seq ?_)))
  refine at_regq [] { ts := [2], os := [] } [] gamOK hT h (by kernel_rfl) trivial fun a w h => then_normal (wp_ret ?_)
  exact at_return (decide (((List.length x0 : Nat) : Int) ≤ 40), ()) [] h (by kernel_rfl) trivial (congrArg (fun z => (z, ())) (show (decide (((List.length x0 : Nat) : Int) ≤ 40)) = validV x0 from by first | rfl | (unfold validV; rw [if_pos hs4])))
theorem validV_t {v : List Int} (h : validV v = true) : List.length v ≤ 40 ∧ (∀ x ∈ v, LA.El x) ∧ (∀ j, 0 ≤ v.getD j 0 ∧ v.getD j 0 ≤ 1018) := by
 unfold validV at h
 split at h
 ·rename_i ha
  have := of_decide_eq_true h
  exact ⟨by omega, validV_el ha, elB (validV_el ha)⟩
 ·cases h
def scaleV (v : List Int) (k : Int) : List Int := if validV v = true ∧ isEl k = true then LA.scaleS v k else []
theorem scaleV_ok {v : List Int} {k : Int} (hv : validV v = true) (hk : 0 ≤ k ∧ k ≤ 1018) : scaleV v k = LA.scaleS v k := if_pos ⟨hv, inR_true hk⟩
theorem scaleV_len (v : List Int) (k : Int) : (scaleV v k).length ≤ v.length := by unfold scaleV LA.scaleS; split <;> simp
def addV (a b : List Int) (k : Int) : List Int := if (validV a = true ∧ validV b = true ∧ List.length a = List.length b) ∧ isEl k = true then LA.addS a b k else []

abbrev Q_spec_IsValidVector := (fun (x0 : (List Int)) => Sh.fit s27 x0)
def S_spec_IsValidVector : Sum := { fid := 31, dom := [s27], cod := [(.bool 4)], dp := true, fz := false, pre := fun x => Q_spec_IsValidVector x.1, g := fun x => ((validV x.1), ()) }
def S_spec_IsValidVector_tab : List (Nat × Sum) := [(86, S_spec_IsElement)]
theorem S_spec_IsValidVector_ok : FnOK Try.prog 31 S_spec_IsValidVector := by
 refine at_enter 19 (fun x => ⟨[(0, aF (.int 3) x.1)], []⟩) Try.func31 rfl (by kernel_rfl) (fun x => rfl) ?_
 rintro w0 Z0 ⟨x0, u⟩ a w
 revert x0
 intro (x0 : (List Int)) hpre hlens h
 replace hpre : Q_spec_IsValidVector x0 := hpre
 have hT : TabOK Try.prog S_spec_IsValidVector_tab := (.cons S_spec_IsElement_ok .nil)
 have hf0 : Sh.fit s27 x0 := hpre
 have hn0_1 : List.length x0 ≤ 1073741824 := hf0.1
 refine wp_seq ?_
 refine at_regq [] { ts := [0, 2], os := [] } [] gamOK hT h (by kernel_rfl) trivial fun a w h => then_normal (wp_seq (wp_seq ?_))
 refine at_regq [] { ts := [0, 2, 3], os := [] } [] gamOK hT h (by kernel_rfl) trivial fun a w h => then_normal (wp_block ?_)
 replace h := at_out (σ' := ⟨[(0, aF (.int 3) x0), (2, aB false), (3, aI 0)], []⟩) { ts := [0, 2, 3], os := [] } h (by kernel_rfl)
 refine at_loop (fun i : Nat => (⟨[(0, aF (.int 3) x0), (2, aB false), (3, aI ((i : Nat) : Int))], []⟩ : St)) (fun i => (i ≤ List.length x0 ∧ allTo1 isEl x0 0 i)) (fun i => List.length x0 - i) (0) h (st_congr1 (fun (d0 : Int) => (⟨[(0, aF (.int 3) x0), (2, aB false), (3, aI d0)], []⟩ : St)) (show (0 : Int) = (((0) : Nat) : Int) from by first | with_reducible rfl | (rfl) | rfl)) (by exact ⟨Nat.zero_le _, allTo1_zero⟩) ?_
 intro i a w hok0 h
 refine wp_seq (wp_seq ?_)
 refine at_regq [] { ts := [0, 2, 3, 7], os := [] } [] gamOK hT h (by kernel_rfl) trivial fun a w h => then_normal ?_
 refine at_test (decide (((i : Nat) : Int) < ((List.length x0 : Nat) : Int))) h (by kernel_rfl) (fun h1 => ?_) (fun h1 => ?_)
 ·replace h1 : ((i : Nat) : Int) < ((List.length x0 : Nat) : Int) := of_decide_eq_true h1
  refine wp_skip (then_normal (wp_seq (wp_block (wp_seq ?_))))
  refine at_regq [] { ts := [0, 2, 3, 15], os := [] } [(0 : Int) ≤ ((i : Nat) : Int) ∧ ((i : Nat) : Int) < ((List.length x0 : Nat) : Int), True] gamOK hT h (by kernel_rfl) ⟨(by refine ⟨?_, ?_⟩ <;> (first | omega | (simp only [lsA]; omega) | (simp <;> omega))), trivial, trivial⟩ fun a w h => then_normal ?_
  refine at_test (!(isEl (x0.getD i 0))) h (by kernel_rfl) (fun h2 => ?_) (fun h2 => ?_)
  ·replace h2 : (isEl (x0.getD i 0)) = false := notT h2
   refine wp_seq ?_
   refine at_regq [] { ts := [0, 2, 3], os := [] } [] gamOK hT h (by kernel_rfl) trivial fun a w h => then_normal (wp_ret (in_ret (then_ret ?_)))
   have hs3 : (List.all x0 isEl) = false := by exact all_at (z := 0) (i := i) (by omega) (by first | assumption | (simp_all; done))
   refine then_ret (in_ret (then_ret ?_))
   exact at_return (false, ()) [] h (by kernel_rfl) trivial (congrArg (fun z => (z, ())) (show (false) = validV x0 from by first | rfl | (unfold validV; rw [if_neg (neT hs3)]; done) | (unfold validV; simp_all)))
  ·replace h2 : (isEl (x0.getD i 0)) = true := notF h2
   have hvh2 := isEl_t h2
   refine wp_skip (in_normal (then_normal ?_))
   refine at_regq [{}, { nw := true }] { ts := [0, 2, 3], os := [] } [I64 (((i : Nat) : Int) + 1)] gamOK hT h (by kernel_rfl) ⟨⟨by first | omega | (simp only [lsA]; omega) | (simp <;> omega), by first | omega | (simp only [lsA]; omega) | (simp <;> omega)⟩, trivial⟩ fun a w h => ?_
   replace h := at_out (σ' := ⟨[(0, aF (.int 3) x0), (2, aB false), (3, aI (((i : Nat) : Int) + 1))], []⟩) { ts := [0, 2, 3], os := [] } h (by kernel_rfl)
   exact ⟨i + 1, at_eq h (st_congr1 (fun (d0 : Int) => (⟨[(0, aF (.int 3) x0), (2, aB false), (3, aI d0)], []⟩ : St)) (show (((i : Nat) : Int) + 1 : Int) = (((i + 1) : Nat) : Int) from by first | with_reducible rfl | (omega) | rfl)), (by exact ⟨by omega, allTo1_succ hok0.2 (by first | assumption | (simp_all; done))⟩), (by omega)⟩
 ·replace h1 : ¬ (((i : Nat) : Int) < ((List.length x0 : Nat) : Int)) := of_decide_eq_false h1
  refine wp_exit (then_exit ?_)
  have hs4 : (List.all x0 isEl) = true := by exact all_of (z := 0) (i := i) (by omega) hok0.2
  refine then_exit (in_hit (then_normal (wp_seq ?_)))
  refine at_regq [] { ts := [2], os := [] } [] gamOK hT h (by kernel_rfl) trivial fun a w h => then_normal (wp_ret ?_)
  exact at_return (decide (((List.length x0 : Nat) : Int) ≤ 40), ()) [] h (by kernel_rfl) trivial (congrArg (fun z => (z, ())) (show (decide (((List.length x0 : Nat) : Int) ≤ 40)) = validV x0 from by first | rfl | (unfold validV; rw [if_pos hs4]; done) | (unfold validV; simp_all)))

def D_impl_LeadingIndex_1 := (fun (e : Int) => !decide (e = 0))
def S_impl_LeadingIndex_1 : Sum := { fid := 92, dom := [(.int 3)], cod := [(.bool 4)], dp := true, fz := false, pre := fun x => True, g := fun x => ((D_impl_LeadingIndex_1 x.1), ()) }
def S_impl_LeadingIndex_1_tab : List (Nat × Sum) := []
theorem S_impl_LeadingIndex_1_ok : FnOK Try.prog 92 S_impl_LeadingIndex_1 := by
 refine at_enter 5 (fun x => ⟨[(0, aI x.1)], []⟩) Try.func92 rfl (by kernel_rfl) (fun x => rfl) ?_
 rintro w0 Z0 ⟨x0, u⟩ a w
 revert x0
 intro (x0 : Int) hpre hlens h
 have hT : TabOK Try.prog S_impl_LeadingIndex_1_tab := .nil
 refine wp_seq ?_
 refine at_regq [] { ts := [0, 2], os := [] } [] gamOK hT h (by kernel_rfl) trivial fun a w h => then_normal (wp_seq ?_)
 refine at_regq [] { ts := [2], os := [] } [] gamOK hT h (by kernel_rfl) trivial fun a w h => then_normal (wp_ret ?_)
 exact at_return (!decide (x0 = 0), ()) [] h (by kernel_rfl) trivial (congrArg (fun z => (z, ())) (show (!decide (x0 = 0)) = D_impl_LeadingIndex_1 x0 from by unfold D_impl_LeadingIndex_1; rfl))

def D_slices_IndexFunc_S_int_int__LeadingIndex_1 := (fun (xs : List Int) (cap : Unit) => idxF (fun e => !decide (e = 0)) xs)
def S_slices_IndexFunc_S_int_int__LeadingIndex_1 : Sum := { fid := 91, dom := [s27, (.fn0 92)], cod := [(.int 3)], dp := true, fz := false, pre := fun x => True, g := fun x => ((D_slices_IndexFunc_S_int_int__LeadingIndex_1 x.1 x.2.1), ()) }
def S_slices_IndexFunc_S_int_int__LeadingIndex_1_tab : List (Nat × Sum) := [(92, S_impl_LeadingIndex_1)]
theorem S_slices_IndexFunc_S_int_int__LeadingIndex_1_ok : FnOK Try.prog 91 S_slices_IndexFunc_S_int_int__LeadingIndex_1 := by
 refine at_enter 19 (fun x => ⟨[(0, aF (.int 3) x.1), (1, .p (.c (.cl 92 .cnil)))], []⟩) Try.func91 rfl (by kernel_rfl) (fun x => rfl) ?_
 rintro w0 Z0 ⟨x0, x1, u⟩ a w
 revert x0 x1
 intro (x0 : (List Int)) (x1 : Unit) hpre hlens h
 have hl1 : List.length x0 ≤ 9223372036854775807 := hlens.1.1
 have hT : TabOK Try.prog S_slices_IndexFunc_S_int_int__LeadingIndex_1_tab := (.cons S_impl_LeadingIndex_1_ok .nil)
 refine wp_seq ?_
 refine at_regq [] { ts := [0, 1, 4], os := [] } [] gamOK hT h (by kernel_rfl) trivial fun a w h => then_normal (wp_seq (wp_seq ?_))
 refine at_regq [] { ts := [0, 1, 4, 7, 8], os := [] } [] gamOK hT h (by kernel_rfl) trivial fun a w h => then_normal (wp_block ?_)
 replace h := at_out (σ' := ⟨[(0, aF (.int 3) x0), (1, .p (.c (.cl 92 .cnil))), (4, aI 0), (7, aI ((List.length x0 : Nat) : Int)), (8, aI 0)], []⟩) { ts := [0, 1, 4, 7, 8], os := [] } h (by kernel_rfl)
 refine at_loop (fun i : Nat => (⟨[(0, aF (.int 3) x0), (1, .p (.c (.cl 92 .cnil))), (4, aI 0), (7, aI ((List.length x0 : Nat) : Int)), (8, aI ((i : Nat) : Int))], []⟩ : St)) (fun i => (i ≤ List.length x0 ∧ noneTo (fun e => !decide (e = 0)) x0 0 i)) (fun i => List.length x0 - i) (0) h (st_congr1 (fun (d0 : Int) => (⟨[(0, aF (.int 3) x0), (1, .p (.c (.cl 92 .cnil))), (4, aI 0), (7, aI ((List.length x0 : Nat) : Int)), (8, aI d0)], []⟩ : St)) (show (0 : Int) = (((0) : Nat) : Int) from by first | with_reducible rfl | (rfl) | rfl)) (by exact ⟨Nat.zero_le _, noneTo_zero⟩) ?_
 intro i a w hok0 h
 refine wp_seq ?_
 refine at_regq [] { ts := [0, 1, 4, 7, 8, 9], os := [] } [] gamOK hT h (by kernel_rfl) trivial fun a w h => then_normal (wp_seq ?_)
 refine at_test (decide (((i : Nat) : Int) < ((List.length x0 : Nat) : Int))) h (by kernel_rfl) (fun h1 => ?_) (fun h1 => ?_)
 ·replace h1 : ((i : Nat) : Int) < ((List.length x0 : Nat) : Int) := of_decide_eq_true h1
  refine wp_skip (then_normal (wp_seq (wp_block (wp_seq ?_))))
  refine at_regq [] { ts := [0, 1, 4, 5, 7, 8], os := [] } [] gamOK hT h (by kernel_rfl) trivial fun a w h => then_normal (wp_seq ?_)
  refine at_regq [] { ts := [0, 1, 4, 5, 7, 8, 16], os := [] } [(0 : Int) ≤ ((i : Nat) : Int) ∧ ((i : Nat) : Int) < ((List.length x0 : Nat) : Int), True] gamOK hT h (by kernel_rfl) ⟨(by refine ⟨?_, ?_⟩ <;> (first | omega | (simp only [lsA]; omega) | (simp <;> omega))), trivial, trivial⟩ fun a w h => then_normal ?_
  refine at_test ((D_impl_LeadingIndex_1 (x0.getD i 0))) h (by kernel_rfl) (fun h2 => ?_) (fun h2 => ?_)
  ·refine wp_seq ?_
   refine at_regq [] { ts := [0, 1, 4, 7, 8], os := [] } [] gamOK hT h (by kernel_rfl) trivial fun a w h => then_normal (wp_ret (in_ret (then_ret (then_ret (in_ret (then_ret ?_))))))
   exact at_return (((i : Nat) : Int), ()) [] h (by kernel_rfl) trivial (congrArg (fun z => (z, ())) (show (((i : Nat) : Int)) = D_slices_IndexFunc_S_int_int__LeadingIndex_1 x0 x1 from by unfold D_slices_IndexFunc_S_int_int__LeadingIndex_1; exact (idxF_at (z := 0) (by omega) hok0.2 h2).symm))
  ·refine wp_skip (in_normal (then_normal ?_))
   refine at_regq [{ nw := true }] { ts := [0, 1, 4, 7, 8], os := [] } [I64 (((i : Nat) : Int) + 1)] gamOK hT h (by kernel_rfl) ⟨⟨by first | omega | (simp only [lsA]; omega) | (simp <;> omega), by first | omega | (simp only [lsA]; omega) | (simp <;> omega)⟩, trivial⟩ fun a w h => ?_
   replace h := at_out (σ' := ⟨[(0, aF (.int 3) x0), (1, .p (.c (.cl 92 .cnil))), (4, aI 0), (7, aI ((List.length x0 : Nat) : Int)), (8, aI (((i : Nat) : Int) + 1))], []⟩) { ts := [0, 1, 4, 7, 8], os := [] } h (by kernel_rfl)
   exact ⟨i + 1, at_eq h (st_congr1 (fun (d0 : Int) => (⟨[(0, aF (.int 3) x0), (1, .p (.c (.cl 92 .cnil))), (4, aI 0), (7, aI ((List.length x0 : Nat) : Int)), (8, aI d0)], []⟩ : St)) (show (((i : Nat) : Int) + 1 : Int) = (((i + 1) : Nat) : Int) from by first | with_reducible rfl | (omega) | rfl)), (by exact ⟨by omega, noneTo_succ hok0.2 h2⟩), (by omega)⟩
 ·replace h1 : ¬ (((i : Nat) : Int) < ((List.length x0 : Nat) : Int)) := of_decide_eq_false h1
  refine wp_exit (then_exit (then_exit (in_hit (then_normal (wp_seq ?_)))))
  refine at_regq [] { ts := [4], os := [] } [] gamOK hT h (by kernel_rfl) trivial fun a w h => then_normal (wp_ret ?_)
  exact at_return ((-1), ()) [] h (by kernel_rfl) trivial (congrArg (fun z => (z, ())) (show ((-1)) = D_slices_IndexFunc_S_int_int__LeadingIndex_1 x0 x1 from by unfold D_slices_IndexFunc_S_int_int__LeadingIndex_1; exact (idxF_none (z := 0) (by omega) hok0.2).symm))

abbrev Q_impl_LeadingIndex := (fun (x0 : (List Int)) => Sh.fit s27 x0)
def S_impl_LeadingIndex : Sum := { fid := 38, dom := [s27], cod := [(.int 3)], dp := true, fz := false, pre := fun x => Q_impl_LeadingIndex x.1, g := fun x => ((LA.leadS x.1), ()) }
def S_impl_LeadingIndex_tab : List (Nat × Sum) := [(100004, S_slices_IndexFunc_S_int_int__LeadingIndex_1)]
theorem S_impl_LeadingIndex_ok : FnOK Try.prog 38 S_impl_LeadingIndex := by
 refine at_enter 5 (fun x => ⟨[(0, aF (.int 3) x.1)], []⟩) Try.func38 rfl (by kernel_rfl) (fun x => rfl) ?_
 rintro w0 Z0 ⟨x0, u⟩ a w
 revert x0
 intro (x0 : (List Int)) hpre hlens h
 replace hpre : Q_impl_LeadingIndex x0 := hpre
 have hT : TabOK Try.prog S_impl_LeadingIndex_tab := (.cons S_slices_IndexFunc_S_int_int__LeadingIndex_1_ok .nil)
 have hf0 : Sh.fit s27 x0 := hpre
 have hn0_1 : List.length x0 ≤ 1073741824 := hf0.1
 refine wp_seq ?_
 refine at_regq [] { ts := [0, 2], os := [] } [] gamOK hT h (by kernel_rfl) trivial fun a w h => then_normal (wp_seq ?_)
 refine at_regq [{}, { key := some 100004 }] { ts := [2], os := [] } [True] gamOK hT h (by kernel_rfl) ⟨trivial, trivial⟩ fun a w h => then_normal (wp_ret ?_)
 exact at_return ((D_slices_IndexFunc_S_int_int__LeadingIndex_1 x0 ()), ()) [] h (by kernel_rfl) trivial (congrArg (fun z => (z, ())) (show ((D_slices_IndexFunc_S_int_int__LeadingIndex_1 x0 ())) = LA.leadS x0 from by exact lead_idx))

abbrev Q_spec_LeadingIndex := (fun (x0 : (List Int)) => Sh.fit s27 x0)
def S_spec_LeadingIndex : Sum := { fid := 149, dom := [s27], cod := [(.int 3)], dp := true, fz := false, pre := fun x => Q_spec_LeadingIndex x.1, g := fun x => ((LA.leadS x.1), ()) }
def S_spec_LeadingIndex_tab : List (Nat × Sum) := []
theorem S_spec_LeadingIndex_ok : FnOK Try.prog 149 S_spec_LeadingIndex := by
 refine at_enter 16 (fun x => ⟨[(0, aF (.int 3) x.1)], []⟩) Try.func149 rfl (by kernel_rfl) (fun x => rfl) ?_
 rintro w0 Z0 ⟨x0, u⟩ a w
 revert x0
 intro (x0 : (List Int)) hpre hlens h
 replace hpre : Q_spec_LeadingIndex x0 := hpre
 have hT : TabOK Try.prog S_spec_LeadingIndex_tab := .nil
 have hf0 : Sh.fit s27 x0 := hpre
 have hn0_1 : List.length x0 ≤ 1073741824 := hf0.1
 refine wp_seq ?_
 refine at_regq [] { ts := [0, 2], os := [] } [] gamOK hT h (by kernel_rfl) trivial fun a w h => then_normal (wp_seq (wp_seq ?_))
 refine at_regq [] { ts := [0, 2, 3], os := [] } [] gamOK hT h (by kernel_rfl) trivial fun a w h => then_normal (wp_block ?_)
 replace h := at_out (σ' := ⟨[(0, aF (.int 3) x0), (2, aI 0), (3, aI 0)], []⟩) { ts := [0, 2, 3], os := [] } h (by kernel_rfl)
 refine at_loop (fun i : Nat => (⟨[(0, aF (.int 3) x0), (2, aI 0), (3, aI ((i : Nat) : Int))], []⟩ : St)) (fun i => (i ≤ List.length x0 ∧ noneTo (fun e => !decide (e = 0)) x0 0 i)) (fun i => List.length x0 - i) (0) h (st_congr1 (fun (d0 : Int) => (⟨[(0, aF (.int 3) x0), (2, aI 0), (3, aI d0)], []⟩ : St)) (show (0 : Int) = (((0) : Nat) : Int) from by first | with_reducible rfl | (rfl) | rfl)) (by exact ⟨Nat.zero_le _, noneTo_zero⟩) ?_
 intro i a w hok0 h
 refine wp_seq (wp_seq ?_)
 refine at_regq [] { ts := [0, 2, 3, 7], os := [] } [] gamOK hT h (by kernel_rfl) trivial fun a w h => then_normal ?_
 refine at_test (decide (((i : Nat) : Int) < ((List.length x0 : Nat) : Int))) h (by kernel_rfl) (fun h1 => ?_) (fun h1 => ?_)
 ·replace h1 : ((i : Nat) : Int) < ((List.length x0 : Nat) : Int) := of_decide_eq_true h1
  refine wp_skip (then_normal (wp_seq (wp_block (wp_seq ?_))))
  refine at_regq [] { ts := [0, 2, 3, 14], os := [] } [(0 : Int) ≤ ((i : Nat) : Int) ∧ ((i : Nat) : Int) < ((List.length x0 : Nat) : Int)] gamOK hT h (by kernel_rfl) ⟨(by refine ⟨?_, ?_⟩ <;> (first | omega | (simp only [lsA]; omega) | (simp <;> omega))), trivial⟩ fun a w h => then_normal ?_
  refine at_test (!decide ((x0.getD i 0) = 0)) h (by kernel_rfl) (fun h2 => ?_) (fun h2 => ?_)
  ·replace h2 : ¬ ((x0.getD i 0) = 0) := of_decide_eq_false (notT h2)
   refine wp_seq ?_
   refine at_regq [] { ts := [0, 2, 3], os := [] } [] gamOK hT h (by kernel_rfl) trivial fun a w h => then_normal (wp_ret (in_ret (then_ret (then_ret (in_ret (then_ret ?_))))))
   exact at_return (((i : Nat) : Int), ()) [] h (by kernel_rfl) trivial (congrArg (fun z => (z, ())) (show (((i : Nat) : Int)) = LA.leadS x0 from by (rw [← lead_idx]; exact (idxF_at (z := 0) (by omega) hok0.2 (by simpa using h2)).symm)))
  ·replace h2 : (x0.getD i 0) = 0 := of_decide_eq_true (notF h2)
   refine wp_skip (in_normal (then_normal ?_))
   refine at_regq [{}, { nw := true }] { ts := [0, 2, 3], os := [] } [I64 (((i : Nat) : Int) + 1)] gamOK hT h (by kernel_rfl) ⟨⟨by first | omega | (simp only [lsA]; omega) | (simp <;> omega), by first | omega | (simp only [lsA]; omega) | (simp <;> omega)⟩, trivial⟩ fun a w h => ?_
   replace h := at_out (σ' := ⟨[(0, aF (.int 3) x0), (2, aI 0), (3, aI (((i : Nat) : Int) + 1))], []⟩) { ts := [0, 2, 3], os := [] } h (by kernel_rfl)
   exact ⟨i + 1, at_eq h (st_congr1 (fun (d0 : Int) => (⟨[(0, aF (.int 3) x0), (2, aI 0), (3, aI d0)], []⟩ : St)) (show (((i : Nat) : Int) + 1 : Int) = (((i + 1) : Nat) : Int) from by first | with_reducible rfl | (omega) | rfl)), (by exact ⟨by omega, noneTo_succ hok0.2 (by simpa using h2)⟩), (by omega)⟩
 ·replace h1 : ¬ (((i : Nat) : Int) < ((List.length x0 : Nat) : Int)) := of_decide_eq_false h1
  refine wp_exit (then_exit (then_exit (in_hit (then_normal (wp_seq ?_)))))
  refine at_regq [] { ts := [2], os := [] } [] gamOK hT h (by kernel_rfl) trivial fun a w h => then_normal (wp_ret ?_)
  exact at_return ((-1), ()) [] h (by kernel_rfl) trivial (congrArg (fun z => (z, ())) (show ((-1)) = LA.leadS x0 from by (rw [← lead_idx]; exact (idxF_none (z := 0) (by omega) hok0.2).symm)))

abbrev Q_impl_addScaled := (fun (x0 : (List Int)) (x1 : (List Int)) (x2 : Int) => Sh.fit s27 x0 ∧ Sh.fit s27 x1 ∧ addOK x0 x1 x2)
def S_impl_addScaled : Sum := { fid := 139, dom := [s27, s27, (.int 3)], cod := [], dp := true, fz := false, pre := fun x => Q_impl_addScaled x.1 x.2.1 x.2.2.1, g := fun x => (), kinds := [.io, .rd, .rd], upd := fun x => (LA.addS x.1 x.2.1 x.2.2.1, (x.2.1, (x.2.2.1, ()))), ali := some 0 }
def S_impl_addScaled_tab : List (Nat × Sum) := []
theorem S_impl_addScaled_ok : FnOK Try.prog 139 S_impl_addScaled := by
 refine at_enterI 30 [1] [2] (fun us x => ⟨[(0, aS 1), (1, aF (.int 3) x.2.1), (2, aI x.2.2.1)], [(1, oR (.int 3) x.1), (2, oP 1 (S_impl_addScaled.hd us 0))]⟩) Try.func139 rfl (by kernel_rfl) (fun us x => rfl) ?_
 rintro w0 Z0 us ⟨x0, x1, x2, u⟩ L a w
 revert x0 x1 x2
 intro (x0 : (List Int)) (x1 : (List Int)) (x2 : Int) hio hpre hlens h
 replace h : At w0 Z0 L 30 ⟨[(0, aS 1), (1, aF (.int 3) x1), (2, aI x2)], [(1, oR (.int 3) x0), (2, oP 1 (S_impl_addScaled.hd us 0))]⟩ a w := h
 replace hpre : Q_impl_addScaled x0 x1 x2 := hpre
 have hT : TabOK Try.prog S_impl_addScaled_tab := .nil
 obtain ⟨hf0, hf1, hpx⟩ := hpre
 have hn0_1 : List.length x0 ≤ 1073741824 := hf0.1
 have hn1_2 : List.length x1 ≤ 1073741824 := hf1.1
 have hk := hpx.1
 have hk2 := hpx.2.1
 refine wp_seq ?_
 refine at_regq [] { ts := [0, 1, 2, 6], os := [1, 2] } [] gamOK hT h (by kernel_rfl) trivial fun a w h => then_normal (wp_seq (wp_seq ?_))
 refine at_regq [] { ts := [0, 2, 6, 9, 10, 11], os := [1, 2] } [] gamOK hT h (by kernel_rfl) trivial fun a w h => then_normal (wp_block ?_)
 replace h := at_out (σ' := ⟨[(0, aS 1), (2, aI x2), (6, .p (.c (cN))), (9, aF (.int 3) x1), (10, aI ((List.length x1 : Nat) : Int)), (11, aI 0)], [(1, oR (.int 3) x0), (2, oP 1 (S_impl_addScaled.hd us 0))]⟩) { ts := [0, 2, 6, 9, 10, 11], os := [1, 2] } h (by kernel_rfl)
 refine at_loop (fun i : Nat => (⟨[(0, aS 1), (2, aI x2), (6, .p (.c (cN))), (9, aF (.int 3) x1), (10, aI ((List.length x1 : Nat) : Int)), (11, aI ((i : Nat) : Int))], [(1, oR (.int 3) (addTo x0 x1 x2 i)), (2, oP 1 (S_impl_addScaled.hd us 0))]⟩ : St)) (fun i => i ≤ List.length x1) (fun i => List.length x1 - i) (0) h (st_congr2 (fun (d0 : List Int) (d1 : Int) => (⟨[(0, aS 1), (2, aI x2), (6, .p (.c (cN))), (9, aF (.int 3) x1), (10, aI ((List.length x1 : Nat) : Int)), (11, aI d1)], [(1, oR (.int 3) d0), (2, oP 1 (S_impl_addScaled.hd us 0))]⟩ : St)) (show (x0 : List Int) = (addTo x0 x1 x2 (0)) from by first | with_reducible rfl | (rfl) | rfl) (show (0 : Int) = (((0) : Nat) : Int) from by first | with_reducible rfl | (rfl) | rfl)) (by omega) ?_
 intro i a w hok0 h
 have hal := addTo_len (k := x2) (i := i) hpx.1 (by omega)
 refine wp_seq ?_
 refine at_regq [] { ts := [0, 2, 6, 9, 10, 11, 12], os := [1, 2] } [] gamOK hT h (by kernel_rfl) trivial fun a w h => then_normal (wp_seq ?_)
 refine at_test (decide (((i : Nat) : Int) < ((List.length x1 : Nat) : Int))) h (by kernel_rfl) (fun h1 => ?_) (fun h1 => ?_)
 ·replace h1 : ((i : Nat) : Int) < ((List.length x1 : Nat) : Int) := of_decide_eq_true h1
  have hb1 := hpx.2.2.1 i
  have hb2 := hpx.2.2.2 i
  have hag := addTo_get (k := x2) hpx.1 (show i < List.length x0 by have := hpx.1; omega)
  refine wp_skip (then_normal (wp_seq (wp_block (wp_seq ?_))))
  refine at_regq [] { ts := [0, 2, 6, 7, 8, 9, 10, 11], os := [1, 2] } [(0 : Int) ≤ ((i : Nat) : Int) ∧ ((i : Nat) : Int) < ((List.length x1 : Nat) : Int)] gamOK hT h (by kernel_rfl) ⟨(by refine ⟨?_, ?_⟩ <;> (first | omega | (simp only [lsA]; omega) | (simp <;> omega))), trivial⟩ fun a w h => then_normal ?_
  refine at_regq [{}, {}, {}, {}, {}, {}, {}, {}, { nw := true }, { nw := true }] { ts := [0, 2, 6, 9, 10, 11], os := [1, 2] } [(0 : Int) ≤ ((i : Nat) : Int) ∧ ((i : Nat) : Int) < ((List.length (addTo x0 x1 x2 i) : Nat) : Int), i < List.length (addTo x0 x1 x2 i), I64 (x2 * (x1.getD i 0)), I64 (((addTo x0 x1 x2 i).getD i 0) + (x2 * (x1.getD i 0))), (1019 : Int) ≠ 0, (0 : Int) ≤ ((i : Nat) : Int) ∧ ((i : Nat) : Int) < ((List.length (addTo x0 x1 x2 i) : Nat) : Int), i < List.length (addTo x0 x1 x2 i)] gamOK hT h (by kernel_rfl) ⟨(by refine ⟨?_, ?_⟩ <;> (first | omega | (simp only [lsA]; omega) | (simp <;> omega))), (by first | omega | (simp only [lsA]; omega) | (simp <;> omega)), ⟨by (have hA0 := mul_f x2 (x1.getD i 0); first | omega | (simp only [lsA]; omega) | (simp <;> omega)), by (have hA0 := mul_f x2 (x1.getD i 0); first | omega | (simp only [lsA]; omega) | (simp <;> omega))⟩, ⟨by (have hA0 := mul_f x2 (x1.getD i 0); first | omega | (simp only [lsA]; omega) | (simp <;> omega)), by (have hA0 := mul_f x2 (x1.getD i 0); first | omega | (simp only [lsA]; omega) | (simp <;> omega))⟩, (by first | omega | (simp only [lsA]; omega) | (simp <;> omega)), (by refine ⟨?_, ?_⟩ <;> (first | omega | (simp only [lsA]; omega) | (simp <;> omega))), (by first | omega | (simp only [lsA]; omega) | (simp <;> omega)), trivial⟩ fun a w h => in_normal (then_normal ?_)
  refine at_regq [{ nw := true }] { ts := [0, 2, 6, 9, 10, 11], os := [1, 2] } [I64 (((i : Nat) : Int) + 1)] gamOK hT h (by kernel_rfl) ⟨⟨by first | omega | (simp only [lsA]; omega) | (simp <;> omega), by first | omega | (simp only [lsA]; omega) | (simp <;> omega)⟩, trivial⟩ fun a w h => ?_
  replace h := at_out (σ' := ⟨[(0, aS 1), (2, aI x2), (6, .p (.c (cN))), (9, aF (.int 3) x1), (10, aI ((List.length x1 : Nat) : Int)), (11, aI (((i : Nat) : Int) + 1))], [(1, oR (.int 3) (List.set (addTo x0 x1 x2 i) i (Int.tmod (((addTo x0 x1 x2 i).getD i 0) + (x2 * (x1.getD i 0))) 1019))), (2, oP 1 (S_impl_addScaled.hd us 0))]⟩) { ts := [0, 2, 6, 9, 10, 11], os := [1, 2] } h (by kernel_rfl)
  exact ⟨i + 1, at_eq h (st_congr2 (fun (d0 : List Int) (d1 : Int) => (⟨[(0, aS 1), (2, aI x2), (6, .p (.c (cN))), (9, aF (.int 3) x1), (10, aI ((List.length x1 : Nat) : Int)), (11, aI d1)], [(1, oR (.int 3) d0), (2, oP 1 (S_impl_addScaled.hd us 0))]⟩ : St)) (show ((List.set (addTo x0 x1 x2 i) i (Int.tmod (((addTo x0 x1 x2 i).getD i 0) + (x2 * (x1.getD i 0))) 1019)) : List Int) = (addTo x0 x1 x2 (i + 1)) from by first | with_reducible rfl | ((rw [hag]; exact addTo_set hpx.1 (by omega))) | rfl) (show (((i : Nat) : Int) + 1 : Int) = (((i + 1) : Nat) : Int) from by first | with_reducible rfl | (omega) | rfl)), (by omega), (by omega)⟩
 ·replace h1 : ¬ (((i : Nat) : Int) < ((List.length x1 : Nat) : Int)) := of_decide_eq_false h1
  refine wp_exit (then_exit (then_exit (in_hit (then_normal (wp_seq ?_)))))
  refine at_regq [] { ts := [6], os := [1, 2] } [] gamOK hT h (by kernel_rfl) trivial fun a w h => then_normal (wp_ret ?_)
  exact at_returnI (S := S_impl_addScaled) (x := (x0, x1, x2, ())) [1] [2] ((addTo x0 x1 x2 i), (x1, (x2, ()))) none [S_impl_addScaled.hd us 0 = S_impl_addScaled.hd us 0] hio h (by kernel_rfl) ⟨rfl, trivial⟩ (by first | rfl | exact congrArg (fun (z : (List Int)) => (z, (x1, (x2, ())))) (show ((addTo x0 x1 x2 i) : (List Int)) = LA.addS x0 x1 x2 from by (exact addTo_all hpx.1 (by omega)))) (fun z e => nomatch e)

abbrev Q_impl_ScaleVector := (fun (x0 : (List Int)) (x1 : Int) => Sh.fit s27 x0)
def S_impl_ScaleVector : Sum := { fid := 137, dom := [s27, (.int 3)], cod := [s27], dp := true, fz := false, pre := fun x => Q_impl_ScaleVector x.1 x.2.1, g := fun x => ((scaleV x.1 x.2.1), ()) }
def S_impl_ScaleVector_tab : List (Nat × Sum) := [(112, S_impl_IsValidVector), (68, S_impl_IsElement), (139, S_impl_addScaled)]
theorem S_impl_ScaleVector_ok : FnOK Try.prog 137 S_impl_ScaleVector := by
 refine at_enter 19 (fun x => ⟨[(0, aF (.int 3) x.1), (1, aI x.2.1)], []⟩) Try.func137 rfl (by kernel_rfl) (fun x => rfl) ?_
 rintro w0 Z0 ⟨x0, x1, u⟩ a w
 revert x0 x1
 intro (x0 : (List Int)) (x1 : Int) hpre hlens h
 replace hpre : Q_impl_ScaleVector x0 x1 := hpre
 have hT : TabOK Try.prog S_impl_ScaleVector_tab := (.cons S_impl_IsValidVector_ok (.cons S_impl_IsElement_ok (.cons S_impl_addScaled_ok .nil)))
 have hf0 : Sh.fit s27 x0 := hpre
 have hn0_1 : List.length x0 ≤ 1073741824 := hf0.1
 refine wp_seq ?_
 refine at_regq [] { ts := [0, 1, 4], os := [] } [] gamOK hT h (by kernel_rfl) trivial fun a w h => then_normal (wp_seq (wp_seq ?_))
 rcases Bool.eq_false_or_eq_true (!(validV x0)) with h1 | h1
 ·have hzh1 : (validV x0) = false := notT h1
  refine at_regq [{}, {}, { hint := some (aB true) }] { ts := [0, 1, 4, 12], os := [] } [Q_impl_IsValidVector x0, (AV.p (.c (.v (.bool (!(validV x0))))) = AV.p (.c (.v (.bool true))))] gamOK hT h (by kernel_rfl) ⟨(by exact hf0), hint_bool (h1), trivial⟩ fun a w h => then_normal ?_
  refine at_test true h (by kernel_rfl) (fun hh => ?_) (fun hh => nomatch hh)
  refine wp_seq ?_
  refine at_regq [] { ts := [0, 1, 4], os := [] } [] gamOK hT h (by kernel_rfl) trivial fun a w h => then_normal (wp_ret (then_ret ?_))
  exact at_return (([] : List Int), ()) [] h (by kernel_rfl) trivial (congrArg (fun z => (z, ())) (show (([] : List Int)) = scaleV x0 x1 from by (unfold scaleV; first | (rw [if_pos ⟨by assumption, by assumption⟩]; exact addS_zero) | (rw [if_neg (by simp_all)]; done))))
 ·have hzh1 : (validV x0) = true := notF h1
  have hvh1 := validV_t (notF h1)
  refine at_regq [{}, {}, { hint := some (aB false) }] { ts := [0, 1, 4, 12], os := [] } [Q_impl_IsValidVector x0, (AV.p (.c (.v (.bool (!(validV x0))))) = AV.p (.c (.v (.bool false)))), True] gamOK hT h (by kernel_rfl) ⟨(by exact hf0), hint_bool (h1), trivial, trivial⟩ fun a w h => then_normal ?_
  refine at_test (!(isEl x1)) h (by kernel_rfl) (fun h2 => ?_) (fun h2 => ?_)
  ·replace h2 : (isEl x1) = false := notT h2
   refine wp_seq ?_
   refine at_regq [] { ts := [0, 1, 4], os := [] } [] gamOK hT h (by kernel_rfl) trivial fun a w h => then_normal (wp_ret (then_ret ?_))
   exact at_return (([] : List Int), ()) [] h (by kernel_rfl) trivial (congrArg (fun z => (z, ())) (show (([] : List Int)) = scaleV x0 x1 from by (unfold scaleV; first | (rw [if_pos ⟨by assumption, by assumption⟩]; exact addS_zero) | (rw [if_neg (by simp_all)]; done))))
  ·replace h2 : (isEl x1) = true := notF h2
   have hvh2 := isEl_t h2
   refine wp_skip (then_normal (wp_seq ?_))
   refine at_regq [{}, {}, { ids := [1] }] { ts := [4], os := [1] } [(0 : Int) ≤ ((List.length x0 : Nat) : Int) ∧ ((List.length x0 : Nat) : Int) = ((List.length x0 : Nat) : Int) ∧ ((List.length x0 : Nat) : Int) * (8 : Nat) ≤ (140737488355328 : Int), Q_impl_addScaled (List.replicate (List.length x0) (0 : Int)) x0 x1] gamOK hT h (by kernel_rfl) ⟨(by refine ⟨?_, ?_, ?_⟩ <;> ((have hA0 := mul_f ((List.length x0 : Nat) : Int) (8 : Nat); first | omega | (simp only [lsA]; omega) | (simp <;> omega)))), (by (refine ⟨Sh.fit_len rfl (by simp; omega), hf0, ?_⟩; exact ⟨by simp, by omega, fun j => by rw [rep_get]; omega, (validV_t (by assumption)).2.2⟩)), trivial⟩ fun a w h => then_normal (wp_ret ?_)
   exact at_return ((LA.addS (List.replicate (List.length x0) (0 : Int)) x0 x1), ()) [] h (by kernel_rfl) trivial (congrArg (fun z => (z, ())) (show ((LA.addS (List.replicate (List.length x0) (0 : Int)) x0 x1)) = scaleV x0 x1 from by (unfold scaleV; first | (rw [if_pos ⟨by assumption, by assumption⟩]; exact addS_zero) | (rw [if_neg (by simp_all)]; done))))

abbrev Q_spec_ScaleVector := (fun (x0 : (List Int)) (x1 : Int) => Sh.fit s27 x0)
def S_spec_ScaleVector : Sum := { fid := 133, dom := [s27, (.int 3)], cod := [s27], dp := true, fz := false, pre := fun x => Q_spec_ScaleVector x.1 x.2.1, g := fun x => ((scaleV x.1 x.2.1), ()) }
def S_spec_ScaleVector_tab : List (Nat × Sum) := [(31, S_spec_IsValidVector), (86, S_spec_IsElement)]
theorem S_spec_ScaleVector_ok : FnOK Try.prog 133 S_spec_ScaleVector := by
 refine at_enter 34 (fun x => ⟨[(0, aF (.int 3) x.1), (1, aI x.2.1)], []⟩) Try.func133 rfl (by kernel_rfl) (fun x => rfl) ?_
 rintro w0 Z0 ⟨x0, x1, u⟩ a w
 revert x0 x1
 intro (x0 : (List Int)) (x1 : Int) hpre hlens h
 replace hpre : Q_spec_ScaleVector x0 x1 := hpre
 have hT : TabOK Try.prog S_spec_ScaleVector_tab := (.cons S_spec_IsValidVector_ok (.cons S_spec_IsElement_ok .nil))
 have hf0 : Sh.fit s27 x0 := hpre
 have hn0_1 : List.length x0 ≤ 1073741824 := hf0.1
 refine wp_seq ?_
 refine at_regq [] { ts := [0, 1, 4], os := [] } [] gamOK hT h (by kernel_rfl) trivial fun a w h => then_normal (wp_seq ?_)
 refine at_regq [{ ids := [1] }] { ts := [0, 1, 4, 5], os := [1] } [] gamOK hT h (by kernel_rfl) trivial fun a w h => then_normal (wp_seq (wp_seq ?_))
 rcases Bool.eq_false_or_eq_true (!(validV x0)) with h1 | h1
 ·have hzh1 : (validV x0) = false := notT h1
  refine at_regq [{}, {}, { hint := some (aB true) }] { ts := [0, 1, 4, 5, 15], os := [1] } [Q_spec_IsValidVector x0, (AV.p (.c (.v (.bool (!(validV x0))))) = AV.p (.c (.v (.bool true))))] gamOK hT h (by kernel_rfl) ⟨(by exact hf0), hint_bool (h1), trivial⟩ fun a w h => then_normal ?_
  refine at_test true h (by kernel_rfl) (fun hh => ?_) (fun hh => nomatch hh)
  refine wp_seq ?_
  refine at_regq [] { ts := [0, 1, 4, 5], os := [1] } [] gamOK hT h (by kernel_rfl) trivial fun a w h => then_normal (wp_ret (then_ret ?_))
  exact at_return (([] : List Int), ()) [] h (by kernel_rfl) trivial (congrArg (fun z => (z, ())) (show (([] : List Int)) = scaleV x0 x1 from by (unfold scaleV; first | (rw [if_pos ⟨by assumption, by assumption⟩, take_all (by omega)]; rfl) | (rw [if_neg (by simp_all)]; done))))
 ·have hzh1 : (validV x0) = true := notF h1
  have hvh1 := validV_t (notF h1)
  refine at_regq [{}, {}, { hint := some (aB false) }] { ts := [0, 1, 4, 5, 15], os := [1] } [Q_spec_IsValidVector x0, (AV.p (.c (.v (.bool (!(validV x0))))) = AV.p (.c (.v (.bool false)))), True] gamOK hT h (by kernel_rfl) ⟨(by exact hf0), hint_bool (h1), trivial, trivial⟩ fun a w h => then_normal ?_
  refine at_test (!(isEl x1)) h (by kernel_rfl) (fun h2 => ?_) (fun h2 => ?_)
  ·replace h2 : (isEl x1) = false := notT h2
   refine wp_seq ?_
   refine at_regq [] { ts := [0, 1, 4, 5], os := [1] } [] gamOK hT h (by kernel_rfl) trivial fun a w h => then_normal (wp_ret (then_ret ?_))
   exact at_return (([] : List Int), ()) [] h (by kernel_rfl) trivial (congrArg (fun z => (z, ())) (show (([] : List Int)) = scaleV x0 x1 from by (unfold scaleV; first | (rw [if_pos ⟨by assumption, by assumption⟩, take_all (by omega)]; rfl) | (rw [if_neg (by simp_all)]; done))))
  ·replace h2 : (isEl x1) = true := notF h2
   have hvh2 := isEl_t h2
   refine wp_skip (then_normal (wp_seq (wp_seq ?_)))
   refine at_regq [] { ts := [0, 1, 4, 5, 6], os := [1] } [] gamOK hT h (by kernel_rfl) trivial fun a w h => then_normal (wp_block ?_)
   replace h := at_out (σ' := ⟨[(0, aF (.int 3) x0), (1, aI x1), (4, .p (.c (cN))), (5, aS 1), (6, aI 0)], [(1, oR (.int 3) ([] : List Int))]⟩) { ts := [0, 1, 4, 5, 6], os := [1] } h (by kernel_rfl)
   refine at_loop (fun i : Nat => (⟨[(0, aF (.int 3) x0), (1, aI x1), (4, .p (.c (cN))), (5, aS 1), (6, aI ((i : Nat) : Int))], [(1, oR (.int 3) (List.map (scF x1) (List.take i x0)))]⟩ : St)) (fun i => i ≤ List.length x0) (fun i => List.length x0 - i) (0) h (st_congr2 (fun (d0 : List Int) (d1 : Int) => (⟨[(0, aF (.int 3) x0), (1, aI x1), (4, .p (.c (cN))), (5, aS 1), (6, aI d1)], [(1, oR (.int 3) d0)]⟩ : St)) (show (([] : List Int) : List Int) = (List.map (scF x1) (List.take (0) x0)) from by first | with_reducible rfl | (first | rfl | simp) | rfl) (show (0 : Int) = (((0) : Nat) : Int) from by first | with_reducible rfl | (first | rfl | simp) | rfl)) (by omega) ?_
   intro i a w hok0 h
   have hlt0 := len_take_le (xs := x0) i
   refine wp_seq (wp_seq ?_)
   refine at_regq [] { ts := [0, 1, 4, 5, 6, 20], os := [1] } [] gamOK hT h (by kernel_rfl) trivial fun a w h => then_normal ?_
   refine at_test (decide (((i : Nat) : Int) < ((List.length x0 : Nat) : Int))) h (by kernel_rfl) (fun h3 => ?_) (fun h3 => ?_)
   ·replace h3 : ((i : Nat) : Int) < ((List.length x0 : Nat) : Int) := of_decide_eq_true h3
    have hx1 := (validV_t (v := x0) (by assumption)).2.2 i
    refine wp_skip (then_normal (wp_seq (wp_block ?_)))
    refine at_regq [{}, {}, {}, {}, {}, {}, { nw := true }, {}, { ids := [2] }, { ids := [3] }] { ts := [0, 1, 4, 5, 6], os := [3] } [(0 : Int) ≤ ((i : Nat) : Int) ∧ ((i : Nat) : Int) < ((List.length x0 : Nat) : Int), I64 ((x0.getD i 0) * x1), (1019 : Int) ≠ 0, (List.length (List.map (scF x1) (List.take i x0)) + List.length ([(Int.tmod ((x0.getD i 0) * x1) 1019)])) * 8 ≤ 140737488355328] gamOK hT h (by kernel_rfl) ⟨(by refine ⟨?_, ?_⟩ <;> (first | omega | (simp only [lsA]; omega) | (simp <;> omega))), ⟨by (have hA0 := mul_f (x0.getD i 0) x1; first | omega | (simp only [lsA]; omega) | (simp <;> omega)), by (have hA0 := mul_f (x0.getD i 0) x1; first | omega | (simp only [lsA]; omega) | (simp <;> omega))⟩, (by first | omega | (simp only [lsA]; omega) | (simp <;> omega)), (by (have hA0 := mul_f (x0.getD i 0) x1; have hA1 := tmod_f ((x0.getD i 0) * x1) 1019; first | omega | (simp only [lsA]; omega) | (simp <;> omega))), trivial⟩ fun a w h => in_normal (then_normal ?_)
    refine at_regq [{}, { nw := true }] { ts := [0, 1, 4, 5, 6], os := [3] } [I64 (((i : Nat) : Int) + 1)] gamOK hT h (by kernel_rfl) ⟨⟨by first | omega | (simp only [lsA]; omega) | (simp <;> omega), by first | omega | (simp only [lsA]; omega) | (simp <;> omega)⟩, trivial⟩ fun a w h => ?_
    replace h := at_out (σ' := ⟨[(0, aF (.int 3) x0), (1, aI x1), (4, .p (.c (cN))), (5, aS 1), (6, aI (((i : Nat) : Int) + 1))], [(1, oR (.int 3) ((List.map (scF x1) (List.take i x0)) ++ ([(Int.tmod ((x0.getD i 0) * x1) 1019)])))]⟩) { ts := [0, 1, 4, 5, 6], os := [3], rn := [(3, 1)] } h (by kernel_rfl)
    exact ⟨i + 1, at_eq h (st_congr2 (fun (d0 : List Int) (d1 : Int) => (⟨[(0, aF (.int 3) x0), (1, aI x1), (4, .p (.c (cN))), (5, aS 1), (6, aI d1)], [(1, oR (.int 3) d0)]⟩ : St)) (show (((List.map (scF x1) (List.take i x0)) ++ ([(Int.tmod ((x0.getD i 0) * x1) 1019)])) : List Int) = (List.map (scF x1) (List.take (i + 1) x0)) from by first | with_reducible rfl | (rw [map_snoc (z := 0) (by omega)]; done) | rfl) (show (((i : Nat) : Int) + 1 : Int) = (((i + 1) : Nat) : Int) from by first | with_reducible rfl | (omega) | rfl)), (by omega), (by omega)⟩
   ·replace h3 : ¬ (((i : Nat) : Int) < ((List.length x0 : Nat) : Int)) := of_decide_eq_false h3
    refine wp_exit (then_exit (then_exit (in_hit (then_normal (wp_seq ?_)))))
    refine at_regq [] { ts := [4], os := [1] } [] gamOK hT h (by kernel_rfl) trivial fun a w h => then_normal (wp_ret ?_)
    exact at_return ((List.map (scF x1) (List.take i x0)), ()) [] h (by kernel_rfl) trivial (congrArg (fun z => (z, ())) (show ((List.map (scF x1) (List.take i x0))) = scaleV x0 x1 from by (unfold scaleV; first | (rw [if_pos ⟨by assumption, by assumption⟩, take_all (by omega)]; rfl) | (rw [if_neg (by simp_all)]; done))))

def l5P (x0 : (List Int)) (x1 : (List Int)) : Bool := (if (validV x0) = true then (if (validV x1) = true then decide (((List.length x0 : Nat) : Int) = ((List.length x1 : Nat) : Int)) else false) else false)
abbrev Q_spec_l5Pair := (fun (x0 : (List Int)) (x1 : (List Int)) => Sh.fit s27 x0 ∧ Sh.fit s27 x1)
def S_spec_l5Pair : Sum := { fid := 161, dom := [s27, s27], cod := [(.bool 4)], dp := true, fz := false, pre := fun x => Q_spec_l5Pair x.1 x.2.1, g := fun x => ((l5P x.1 x.2.1), ()) }
def S_spec_l5Pair_tab : List (Nat × Sum) := [(31, S_spec_IsValidVector)]
theorem S_spec_l5Pair_ok : FnOK Try.prog 161 S_spec_l5Pair := by
 refine at_enter 18 (fun x => ⟨[(0, aF (.int 3) x.1), (1, aF (.int 3) x.2.1)], []⟩) Try.func161 rfl (by kernel_rfl) (fun x => rfl) ?_
 rintro w0 Z0 ⟨x0, x1, u⟩ a w
 revert x0 x1
 intro (x0 : (List Int)) (x1 : (List Int)) hpre hlens h
 replace hpre : Q_spec_l5Pair x0 x1 := hpre
 have hT : TabOK Try.prog S_spec_l5Pair_tab := (.cons S_spec_IsValidVector_ok .nil)
 obtain ⟨hf0, hf1⟩ := hpre
 have hn0_1 : List.length x0 ≤ 1073741824 := hf0.1
 have hn1_2 : List.length x1 ≤ 1073741824 := hf1.1
 refine wp_seq ?_
 refine at_regq [] { ts := [0, 1, 4], os := [] } [] gamOK hT h (by kernel_rfl) trivial fun a w h => then_normal (wp_seq ?_)
 rcases Bool.eq_false_or_eq_true ((validV x0)) with h1 | h1
 ·have hvh1 := validV_t h1
  rcases Bool.eq_false_or_eq_true ((validV x1)) with h2 | h2
  ·have hvh2 := validV_t h2
   refine at_regq [{}, { hint := some (aB true) }, {}, {}, { hint := some (aB true) }] { ts := [4], os := [] } [Q_spec_IsValidVector x0, (AV.p (.c (.v (.bool ((validV x0))))) = AV.p (.c (.v (.bool true)))), Q_spec_IsValidVector x1, (AV.p (.c (.v (.bool ((validV x1))))) = AV.p (.c (.v (.bool true))))] gamOK hT h (by kernel_rfl) ⟨(by exact hf0), hint_bool (h1), (by exact hf1), hint_bool (h2), trivial⟩ fun a w h => then_normal (wp_ret ?_)
   exact at_return (decide (((List.length x0 : Nat) : Int) = ((List.length x1 : Nat) : Int)), ()) [] h (by kernel_rfl) trivial (congrArg (fun z => (z, ())) (show (decide (((List.length x0 : Nat) : Int) = ((List.length x1 : Nat) : Int))) = l5P x0 x1 from by first | rfl | (unfold l5P; rw [if_pos h1, if_pos h2])))
  ·refine at_regq [{}, { hint := some (aB true) }, {}, {}, { hint := some (aB false) }] { ts := [4], os := [] } [Q_spec_IsValidVector x0, (AV.p (.c (.v (.bool ((validV x0))))) = AV.p (.c (.v (.bool true)))), Q_spec_IsValidVector x1, (AV.p (.c (.v (.bool ((validV x1))))) = AV.p (.c (.v (.bool false))))] gamOK hT h (by kernel_rfl) ⟨(by exact hf0), hint_bool (h1), (by exact hf1), hint_bool (h2), trivial⟩ fun a w h => then_normal (wp_ret ?_)
   exact at_return (false, ()) [] h (by kernel_rfl) trivial (congrArg (fun z => (z, ())) (show (false) = l5P x0 x1 from by first | rfl | (unfold l5P; rw [if_pos h1, if_neg (neT h2)])))
 ·refine at_regq [{}, { hint := some (aB false) }] { ts := [4], os := [] } [Q_spec_IsValidVector x0, (AV.p (.c (.v (.bool ((validV x0))))) = AV.p (.c (.v (.bool false))))] gamOK hT h (by kernel_rfl) ⟨(by exact hf0), hint_bool (h1), trivial⟩ fun a w h => then_normal (wp_ret ?_)
  exact at_return (false, ()) [] h (by kernel_rfl) trivial (congrArg (fun z => (z, ())) (show (false) = l5P x0 x1 from by first | rfl | (unfold l5P; rw [if_neg (neT h1)])))
theorem l5P_t {a b : List Int} (h : l5P a b = true) : validV a = true ∧ validV b = true ∧ List.length a = List.length b := by
 unfold l5P at h
 split at h
 ·split at h
  ·have := of_decide_eq_true h; exact ⟨by assumption, by assumption, by omega⟩
  ·cases h
 ·cases h
theorem l5P_of {a b : List Int} (h : validV a = true ∧ validV b = true ∧ List.length a = List.length b) : l5P a b = true := by
 unfold l5P; rw [if_pos h.1, if_pos h.2.1]; exact decide_eq_true (by omega)
theorem l5P_v {a b : List Int} (h : l5P a b = true) : (List.length a = List.length b ∧ List.length a ≤ 40) ∧ (∀ j, 0 ≤ a.getD j 0 ∧ a.getD j 0 ≤ 1018) ∧ (∀ j, 0 ≤ b.getD j 0 ∧ b.getD j 0 ≤ 1018) := by
 have h := l5P_t h
 exact ⟨⟨h.2.2, (validV_t h.1).1⟩, (validV_t h.1).2.2, (validV_t h.2.1).2.2⟩
theorem addV_ok {a b : List Int} {k : Int} (ha : validV a = true) (hb : validV b = true) (hl : List.length a = List.length b) (hk : 0 ≤ k ∧ k ≤ 1018) : addV a b k = LA.addS a b k := if_pos ⟨⟨ha, hb, hl⟩, inR_true hk⟩
theorem addV_len (a b : List Int) (k : Int) : (addV a b k).length ≤ a.length := by unfold addV LA.addS; split <;> simp <;> omega

abbrev Q_spec_AddScaled := (fun (x0 : (List Int)) (x1 : (List Int)) (x2 : Int) => Sh.fit s27 x0 ∧ Sh.fit s27 x1)
def S_spec_AddScaled : Sum := { fid := 111, dom := [s27, s27, (.int 3)], cod := [s27], dp := true, fz := false, pre := fun x => Q_spec_AddScaled x.1 x.2.1 x.2.2.1, g := fun x => ((addV x.1 x.2.1 x.2.2.1), ()) }
def S_spec_AddScaled_tab : List (Nat × Sum) := [(161, S_spec_l5Pair), (86, S_spec_IsElement)]
theorem S_spec_AddScaled_ok : FnOK Try.prog 111 S_spec_AddScaled := by
 refine at_enter 42 (fun x => ⟨[(0, aF (.int 3) x.1), (1, aF (.int 3) x.2.1), (2, aI x.2.2.1)], []⟩) Try.func111 rfl (by kernel_rfl) (fun x => rfl) ?_
 rintro w0 Z0 ⟨x0, x1, x2, u⟩ a w
 revert x0 x1 x2
 intro (x0 : (List Int)) (x1 : (List Int)) (x2 : Int) hpre hlens h
 replace hpre : Q_spec_AddScaled x0 x1 x2 := hpre
 have hT : TabOK Try.prog S_spec_AddScaled_tab := (.cons S_spec_l5Pair_ok (.cons S_spec_IsElement_ok .nil))
 obtain ⟨hf0, hf1⟩ := hpre
 have hn0_1 : List.length x0 ≤ 1073741824 := hf0.1
 have hn1_2 : List.length x1 ≤ 1073741824 := hf1.1
 refine wp_seq ?_
 refine at_regq [] { ts := [0, 1, 2, 6], os := [] } [] gamOK hT h (by kernel_rfl) trivial fun a w h => then_normal (wp_seq ?_)
 refine at_regq [{ ids := [1] }] { ts := [0, 1, 2, 6, 7], os := [1] } [] gamOK hT h (by kernel_rfl) trivial fun a w h => then_normal (wp_seq (wp_seq ?_))
 rcases Bool.eq_false_or_eq_true (!(l5P x0 x1)) with h1 | h1
 ·have hzh1 : (l5P x0 x1) = false := notT h1
  refine at_regq [{}, {}, {}, { hint := some (aB true) }] { ts := [0, 1, 2, 6, 7, 18], os := [1] } [Q_spec_l5Pair x0 x1, (AV.p (.c (.v (.bool (!(l5P x0 x1))))) = AV.p (.c (.v (.bool true))))] gamOK hT h (by kernel_rfl) ⟨(by exact ⟨hf0, hf1⟩), hint_bool (h1), trivial⟩ fun a w h => then_normal ?_
  refine at_test true h (by kernel_rfl) (fun hh => ?_) (fun hh => nomatch hh)
  refine wp_seq ?_
  refine at_regq [] { ts := [0, 1, 2, 6, 7], os := [1] } [] gamOK hT h (by kernel_rfl) trivial fun a w h => then_normal (wp_ret (then_ret ?_))
  exact at_return (([] : List Int), ()) [] h (by kernel_rfl) trivial (congrArg (fun z => (z, ())) (show (([] : List Int)) = addV x0 x1 x2 from by (unfold addV; first | (have hl : List.length x0 = List.length x1 := (l5P_t (by assumption)).2.2; rw [if_pos ⟨l5P_t (by assumption), by assumption⟩, take_all (by rw [LA.addS_len hl]; omega)]; done) | (rw [if_neg (fun e => by have := l5P_of e.1; simp_all)]; done))))
 ·have hzh1 : (l5P x0 x1) = true := notF h1
  have hvh1 := l5P_v (notF h1)
  refine at_regq [{}, {}, {}, { hint := some (aB false) }] { ts := [0, 1, 2, 6, 7, 18], os := [1] } [Q_spec_l5Pair x0 x1, (AV.p (.c (.v (.bool (!(l5P x0 x1))))) = AV.p (.c (.v (.bool false)))), True] gamOK hT h (by kernel_rfl) ⟨(by exact ⟨hf0, hf1⟩), hint_bool (h1), trivial, trivial⟩ fun a w h => then_normal ?_
  refine at_test (!(isEl x2)) h (by kernel_rfl) (fun h2 => ?_) (fun h2 => ?_)
  ·replace h2 : (isEl x2) = false := notT h2
   refine wp_seq ?_
   refine at_regq [] { ts := [0, 1, 2, 6, 7], os := [1] } [] gamOK hT h (by kernel_rfl) trivial fun a w h => then_normal (wp_ret (then_ret ?_))
   exact at_return (([] : List Int), ()) [] h (by kernel_rfl) trivial (congrArg (fun z => (z, ())) (show (([] : List Int)) = addV x0 x1 x2 from by (unfold addV; first | (have hl : List.length x0 = List.length x1 := (l5P_t (by assumption)).2.2; rw [if_pos ⟨l5P_t (by assumption), by assumption⟩, take_all (by rw [LA.addS_len hl]; omega)]; done) | (rw [if_neg (fun e => by have := l5P_of e.1; simp_all)]; done))))
  ·replace h2 : (isEl x2) = true := notF h2
   have hvh2 := isEl_t h2
   refine wp_skip (then_normal (wp_seq (wp_seq ?_)))
   refine at_regq [] { ts := [0, 1, 2, 6, 7, 8], os := [1] } [] gamOK hT h (by kernel_rfl) trivial fun a w h => then_normal (wp_block ?_)
   replace h := at_out (σ' := ⟨[(0, aF (.int 3) x0), (1, aF (.int 3) x1), (2, aI x2), (6, .p (.c (cN))), (7, aS 1), (8, aI 0)], [(1, oR (.int 3) ([] : List Int))]⟩) { ts := [0, 1, 2, 6, 7, 8], os := [1] } h (by kernel_rfl)
   refine at_loop (fun i : Nat => (⟨[(0, aF (.int 3) x0), (1, aF (.int 3) x1), (2, aI x2), (6, .p (.c (cN))), (7, aS 1), (8, aI ((i : Nat) : Int))], [(1, oR (.int 3) (List.take i (LA.addS x0 x1 x2)))]⟩ : St)) (fun i => i ≤ List.length x0) (fun i => List.length x0 - i) (0) h (st_congr2 (fun (d0 : List Int) (d1 : Int) => (⟨[(0, aF (.int 3) x0), (1, aF (.int 3) x1), (2, aI x2), (6, .p (.c (cN))), (7, aS 1), (8, aI d1)], [(1, oR (.int 3) d0)]⟩ : St)) (show (([] : List Int) : List Int) = (List.take (0) (LA.addS x0 x1 x2)) from by first | with_reducible rfl | (rfl) | rfl) (show (0 : Int) = (((0) : Nat) : Int) from by first | with_reducible rfl | (rfl) | rfl)) (by omega) ?_
   intro i a w hok0 h
   have hlt := addS_take_le x0 x1 x2 i
   refine wp_seq (wp_seq ?_)
   refine at_regq [] { ts := [0, 1, 2, 6, 7, 8, 23], os := [1] } [] gamOK hT h (by kernel_rfl) trivial fun a w h => then_normal ?_
   refine at_test (decide (((i : Nat) : Int) < ((List.length x0 : Nat) : Int))) h (by kernel_rfl) (fun h3 => ?_) (fun h3 => ?_)
   ·replace h3 : ((i : Nat) : Int) < ((List.length x0 : Nat) : Int) := of_decide_eq_true h3
    have hx1 := (l5P_v (a := x0) (b := x1) (by assumption)).2.1 i
    have hx2 := (l5P_v (a := x0) (b := x1) (by assumption)).2.2 i
    refine wp_skip (then_normal (wp_seq (wp_block ?_)))
    refine at_anyq [{}, {}, {}, {}, {}, {}, {}, {}, {}, {}, { nw := true }, { nw := true }, {}, { ids := [2] }, { ids := [3] }, {}] { ts := [0, 1, 2, 6, 7, 8], os := [3] } [(0 : Int) ≤ ((i : Nat) : Int) ∧ ((i : Nat) : Int) < ((List.length x0 : Nat) : Int), (0 : Int) ≤ ((i : Nat) : Int) ∧ ((i : Nat) : Int) < ((List.length x1 : Nat) : Int), I64 ((x1.getD i 0) * x2), I64 ((x0.getD i 0) + ((x1.getD i 0) * x2)), (1019 : Int) ≠ 0, (List.length (List.take i (LA.addS x0 x1 x2)) + List.length ([(Int.tmod ((x0.getD i 0) + ((x1.getD i 0) * x2)) 1019)])) * 8 ≤ 140737488355328] gamOK hT mixed h (by kernel_rfl) ⟨(by refine ⟨?_, ?_⟩ <;> (first | omega | (simp only [lsA]; omega) | (simp <;> omega))), (by refine ⟨?_, ?_⟩ <;> (first | omega | (simp only [lsA]; omega) | (simp <;> omega))), ⟨by (have hA0 := mul_f (x1.getD i 0) x2; first | omega | (simp only [lsA]; omega) | (simp <;> omega)), by (have hA0 := mul_f (x1.getD i 0) x2; first | omega | (simp only [lsA]; omega) | (simp <;> omega))⟩, ⟨by (have hA0 := mul_f (x1.getD i 0) x2; first | omega | (simp only [lsA]; omega) | (simp <;> omega)), by (have hA0 := mul_f (x1.getD i 0) x2; first | omega | (simp only [lsA]; omega) | (simp <;> omega))⟩, (by first | omega | (simp only [lsA]; omega) | (simp <;> omega)), (by (have hA0 := mul_f (x1.getD i 0) x2; have hA1 := tmod_f ((x0.getD i 0) + ((x1.getD i 0) * x2)) 1019; have hL2 := (show List.length (List.take i (LA.addS x0 x1 x2)) ≤ 1073741824 from ((Sh.fit_take (Sh.fit_len (t := 27) (s := .int 3) rfl (by simp [LA.addS]; omega)) i)).1); first | omega | (simp only [lsA]; omega) | (simp <;> omega))), trivial⟩ fun a w h => in_normal (then_normal ?_)
    refine at_regq [{}, { nw := true }] { ts := [0, 1, 2, 6, 7, 8], os := [3] } [I64 (((i : Nat) : Int) + 1)] gamOK hT h (by kernel_rfl) ⟨⟨by first | omega | (simp only [lsA]; omega) | (simp <;> omega), by first | omega | (simp only [lsA]; omega) | (simp <;> omega)⟩, trivial⟩ fun a w h => ?_
    replace h := at_out (σ' := ⟨[(0, aF (.int 3) x0), (1, aF (.int 3) x1), (2, aI x2), (6, .p (.c (cN))), (7, aS 1), (8, aI (((i : Nat) : Int) + 1))], [(1, oR (.int 3) ((List.take i (LA.addS x0 x1 x2)) ++ ([(Int.tmod ((x0.getD i 0) + ((x1.getD i 0) * x2)) 1019)])))]⟩) { ts := [0, 1, 2, 6, 7, 8], os := [3], rn := [(3, 1)] } h (by kernel_rfl)
    exact ⟨i + 1, at_eq h (st_congr2 (fun (d0 : List Int) (d1 : Int) => (⟨[(0, aF (.int 3) x0), (1, aF (.int 3) x1), (2, aI x2), (6, .p (.c (cN))), (7, aS 1), (8, aI d1)], [(1, oR (.int 3) d0)]⟩ : St)) (show (((List.take i (LA.addS x0 x1 x2)) ++ ([(Int.tmod ((x0.getD i 0) + ((x1.getD i 0) * x2)) 1019)])) : List Int) = (List.take (i + 1) (LA.addS x0 x1 x2)) from by first | with_reducible rfl | ((have hl : List.length x0 = List.length x1 := (l5P_t (by assumption)).2.2; rw [take_snoc (z := 0) (by rw [LA.addS_len hl]; omega), LA.addS_at hl, Int.mul_comm]; done)) | rfl) (show (((i : Nat) : Int) + 1 : Int) = (((i + 1) : Nat) : Int) from by first | with_reducible rfl | (omega) | rfl)), (by omega), (by omega)⟩
   ·replace h3 : ¬ (((i : Nat) : Int) < ((List.length x0 : Nat) : Int)) := of_decide_eq_false h3
    refine wp_exit (then_exit (then_exit (in_hit (then_normal (wp_seq ?_)))))
    refine at_regq [] { ts := [6], os := [1] } [] gamOK hT h (by kernel_rfl) trivial fun a w h => then_normal (wp_ret ?_)
    exact at_return ((List.take i (LA.addS x0 x1 x2)), ()) [] h (by kernel_rfl) trivial (congrArg (fun z => (z, ())) (show ((List.take i (LA.addS x0 x1 x2))) = addV x0 x1 x2 from by (unfold addV; first | (have hl : List.length x0 = List.length x1 := (l5P_t (by assumption)).2.2; rw [if_pos ⟨l5P_t (by assumption), by assumption⟩, take_all (by rw [LA.addS_len hl]; omega)]; done) | (rw [if_neg (fun e => by have := l5P_of e.1; simp_all)]; done))))

abbrev Q_impl_copyMatrix := (fun (x0 : (List (List Int))) => Sh.fit s24 x0)
def S_impl_copyMatrix : Sum := { fid := 136, dom := [s24], cod := [s24], dp := true, fz := false, pre := fun x => Q_impl_copyMatrix x.1, g := fun x => (((idD s24) x.1), ()) }
def S_impl_copyMatrix_tab : List (Nat × Sum) := [(109, S_slices_Clone_S_int_int_)]
theorem S_impl_copyMatrix_ok : FnOK Try.prog 136 S_impl_copyMatrix := by
 refine at_enter 19 (fun x => ⟨[(0, aF s27 x.1)], []⟩) Try.func136 rfl (by kernel_rfl) (fun x => rfl) ?_
 rintro w0 Z0 ⟨x0, u⟩ a w
 revert x0
 intro (x0 : (List (List Int))) hpre hlens h
 replace hpre : Q_impl_copyMatrix x0 := hpre
 have hT : TabOK Try.prog S_impl_copyMatrix_tab := (.cons S_slices_Clone_S_int_int__ok .nil)
 have hf0 : Sh.fit s24 x0 := hpre
 have hn0_1 : List.length x0 ≤ 1073741824 := hf0.1
 refine wp_seq ?_
 refine at_regq [] { ts := [0, 2], os := [] } [] gamOK hT h (by kernel_rfl) trivial fun a w h => then_normal (wp_seq ?_)
 refine at_regq [] { ts := [0, 2, 3], os := [] } [] gamOK hT h (by kernel_rfl) trivial fun a w h => then_normal (wp_seq (wp_seq ?_))
 refine at_regq [] { ts := [2, 3, 6, 7, 8], os := [] } [] gamOK hT h (by kernel_rfl) trivial fun a w h => then_normal (wp_block ?_)
 replace h := at_out (σ' := ⟨[(2, .p (.c (cN))), (3, aS 1), (6, aF s27 x0), (7, aI ((List.length x0 : Nat) : Int)), (8, aI 0)], [(1, oR s27 ([] : List (List Int)))]⟩) { mt := [⟨none, 3, 1, true, s27⟩], ts := [2, 3, 6, 7, 8], os := [1] } h (by kernel_rfl)
 refine at_loop (fun i : Nat => (⟨[(2, .p (.c (cN))), (3, aS 1), (6, aF s27 x0), (7, aI ((List.length x0 : Nat) : Int)), (8, aI ((i : Nat) : Int))], [(1, oR s27 (List.take i x0))]⟩ : St)) (fun i => i ≤ List.length x0) (fun i => List.length x0 - i) (0) h (st_congr2 (fun (d0 : List (List Int)) (d1 : Int) => (⟨[(2, .p (.c (cN))), (3, aS 1), (6, aF s27 x0), (7, aI ((List.length x0 : Nat) : Int)), (8, aI d1)], [(1, oR s27 d0)]⟩ : St)) (show (([] : List (List Int)) : List (List Int)) = (List.take (0) x0) from by first | with_reducible rfl | (rfl) | rfl) (show (0 : Int) = (((0) : Nat) : Int) from by first | with_reducible rfl | (rfl) | rfl)) (by omega) ?_
 intro i a w hok0 h
 have hlt := len_take_le (xs := x0) i
 have hrw := (Sh.fit_getD hf0 i).1
 refine wp_seq ?_
 refine at_regq [] { ts := [2, 3, 6, 7, 8, 9], os := [1] } [] gamOK hT h (by kernel_rfl) trivial fun a w h => then_normal (wp_seq ?_)
 refine at_test (decide (((i : Nat) : Int) < ((List.length x0 : Nat) : Int))) h (by kernel_rfl) (fun h1 => ?_) (fun h1 => ?_)
 ·replace h1 : ((i : Nat) : Int) < ((List.length x0 : Nat) : Int) := of_decide_eq_true h1
  refine wp_skip (then_normal (wp_seq (wp_block (wp_seq ?_))))
  refine at_regq [] { ts := [2, 3, 5, 6, 7, 8], os := [1] } [(0 : Int) ≤ ((i : Nat) : Int) ∧ ((i : Nat) : Int) < ((List.length x0 : Nat) : Int)] gamOK hT h (by kernel_rfl) ⟨(by refine ⟨?_, ?_⟩ <;> (first | omega | (simp only [lsA]; omega) | (simp <;> omega))), trivial⟩ fun a w h => then_normal ?_
  refine at_regq [{}, {}, { ids := [2] }, { ids := [3] }, { ids := [4] }] { ts := [2, 3, 6, 7, 8], os := [4] } [(lenOK (α := Int)) (x0.getD i []), (List.length (List.take i x0) + List.length ([(x0.getD i [])])) * 24 ≤ 140737488355328] gamOK hT h (by kernel_rfl) ⟨(by exact (Sh.fit_getD hf0 i).1), (by (have hL0 := (show List.length (List.take i x0) ≤ 1073741824 from ((Sh.fit_take hf0 i)).1); first | omega | (simp only [lsA]; omega) | (simp <;> omega))), trivial⟩ fun a w h => in_normal (then_normal ?_)
  refine at_regq [{ nw := true }] { ts := [2, 3, 6, 7, 8], os := [4] } [I64 (((i : Nat) : Int) + 1)] gamOK hT h (by kernel_rfl) ⟨⟨by first | omega | (simp only [lsA]; omega) | (simp <;> omega), by first | omega | (simp only [lsA]; omega) | (simp <;> omega)⟩, trivial⟩ fun a w h => ?_
  replace h := at_out (σ' := ⟨[(2, .p (.c (cN))), (3, aS 1), (6, aF s27 x0), (7, aI ((List.length x0 : Nat) : Int)), (8, aI (((i : Nat) : Int) + 1))], [(1, oR s27 ((List.take i x0) ++ ([(x0.getD i [])])))]⟩) { ts := [2, 3, 6, 7, 8], os := [4], rn := [(4, 1)] } h (by kernel_rfl)
  exact ⟨i + 1, at_eq h (st_congr2 (fun (d0 : List (List Int)) (d1 : Int) => (⟨[(2, .p (.c (cN))), (3, aS 1), (6, aF s27 x0), (7, aI ((List.length x0 : Nat) : Int)), (8, aI d1)], [(1, oR s27 d0)]⟩ : St)) (show (((List.take i x0) ++ ([(x0.getD i [])])) : List (List Int)) = (List.take (i + 1) x0) from by first | with_reducible rfl | (first | (rw [take_snoc (z := []) (by omega)]; done) | (rw [take_snoc (z := []) (by omega)]; rfl)) | rfl) (show (((i : Nat) : Int) + 1 : Int) = (((i + 1) : Nat) : Int) from by first | with_reducible rfl | (omega) | rfl)), (by omega), (by omega)⟩
 ·replace h1 : ¬ (((i : Nat) : Int) < ((List.length x0 : Nat) : Int)) := of_decide_eq_false h1
  refine wp_exit (then_exit (then_exit (in_hit (then_normal (wp_seq ?_)))))
  refine at_regq [] { ts := [2], os := [1] } [] gamOK hT h (by kernel_rfl) trivial fun a w h => then_normal (wp_ret ?_)
  exact at_return ((List.take i x0), ()) [] h (by kernel_rfl) trivial (congrArg (fun z => (z, ())) (show ((List.take i x0)) = (idD s24) x0 from by (rw [take_all (by omega)]; rfl)))

abbrev Q_spec_l6Copy := (fun (x0 : (List (List Int))) => Sh.fit s24 x0)
def S_spec_l6Copy : Sum := { fid := 177, dom := [s24], cod := [s24], dp := false, fz := false, pre := fun x => Q_spec_l6Copy x.1, g := fun x => (((idD s24) x.1), ()) }
def S_spec_l6Copy_tab : List (Nat × Sum) := []
theorem S_spec_l6Copy_ok : FnOK Try.prog 177 S_spec_l6Copy := by
 refine at_enter 22 (fun x => ⟨[(0, aF s27 x.1)], []⟩) Try.func177 rfl (by kernel_rfl) (fun x => rfl) ?_
 rintro w0 Z0 ⟨x0, u⟩ a w
 revert x0
 intro (x0 : (List (List Int))) hpre hlens h
 replace hpre : Q_spec_l6Copy x0 := hpre
 have hT : TabOK Try.prog S_spec_l6Copy_tab := .nil
 have hf0 : Sh.fit s24 x0 := hpre
 have hn0_1 : List.length x0 ≤ 1073741824 := hf0.1
 refine wp_seq ?_
 refine at_regq [] { ts := [0, 2], os := [] } [] gamOK hT h (by kernel_rfl) trivial fun a w h => then_normal (wp_seq ?_)
 refine at_regq [{ ids := [1], dp := false }] { ts := [0, 2, 3], os := [1] } [] gamOK hT h (by kernel_rfl) trivial fun a w h => then_normal (wp_seq (wp_seq ?_))
 refine at_regq [] { ts := [0, 2, 3, 4], os := [1] } [] gamOK hT h (by kernel_rfl) trivial fun a w h => then_normal (wp_block ?_)
 replace h := at_out (σ' := ⟨[(0, aF s27 x0), (2, .p (.c (cN))), (3, aS 1), (4, aI 0)], [(1, oF s27 ([] : List (List Int)))]⟩) { ts := [0, 2, 3, 4], os := [1] } h (by kernel_rfl)
 refine at_loop (fun i : Nat => (⟨[(0, aF s27 x0), (2, .p (.c (cN))), (3, aS 1), (4, aI ((i : Nat) : Int))], [(1, oF s27 (List.take i x0))]⟩ : St)) (fun i => i ≤ List.length x0) (fun i => List.length x0 - i) (0) h (st_congr2 (fun (d0 : List (List Int)) (d1 : Int) => (⟨[(0, aF s27 x0), (2, .p (.c (cN))), (3, aS 1), (4, aI d1)], [(1, oF s27 d0)]⟩ : St)) (show (([] : List (List Int)) : List (List Int)) = (List.take (0) x0) from by first | with_reducible rfl | (rfl) | rfl) (show (0 : Int) = (((0) : Nat) : Int) from by first | with_reducible rfl | (rfl) | rfl)) (by omega) ?_
 intro i a w hok0 h
 have hlt := len_take_le (xs := x0) i
 have hrw := (Sh.fit_getD hf0 i).1
 refine wp_seq (wp_seq ?_)
 refine at_regq [] { ts := [0, 2, 3, 4, 9], os := [1] } [] gamOK hT h (by kernel_rfl) trivial fun a w h => then_normal ?_
 refine at_test (decide (((i : Nat) : Int) < ((List.length x0 : Nat) : Int))) h (by kernel_rfl) (fun h1 => ?_) (fun h1 => ?_)
 ·replace h1 : ((i : Nat) : Int) < ((List.length x0 : Nat) : Int) := of_decide_eq_true h1
  refine wp_skip (then_normal (wp_seq (wp_block ?_)))
  refine at_regq [{}, { ids := [2], dp := false }, {}, {}, {}, {}, { ids := [3], frz := true, dp := false }, { ids := [4], dp := false }, { ids := [5], dp := false }] { ts := [0, 2, 3, 4], os := [5] } [(0 : Int) ≤ ((i : Nat) : Int) ∧ ((i : Nat) : Int) < ((List.length x0 : Nat) : Int), (List.length ([] : List Int) + List.length (x0.getD i [])) * 8 ≤ 140737488355328, (List.length (List.take i x0) + List.length ([(([] : List Int) ++ (x0.getD i []))])) * 24 ≤ 140737488355328] gamOK hT h (by kernel_rfl) ⟨(by refine ⟨?_, ?_⟩ <;> (first | omega | (simp only [lsA]; omega) | (simp <;> omega))), (by (have hL0 := (show List.length (x0.getD i []) ≤ 1073741824 from ((Sh.fit_getD hf0 i)).1); first | omega | (simp only [lsA]; omega) | (simp <;> omega))), (by (have hL0 := (show List.length (List.take i x0) ≤ 1073741824 from ((Sh.fit_take hf0 i)).1); first | omega | (simp only [lsA]; omega) | (simp <;> omega))), trivial⟩ fun a w h => in_normal (then_normal ?_)
  refine at_regq [{}, { nw := true }] { ts := [0, 2, 3, 4], os := [5] } [I64 (((i : Nat) : Int) + 1)] gamOK hT h (by kernel_rfl) ⟨⟨by first | omega | (simp only [lsA]; omega) | (simp <;> omega), by first | omega | (simp only [lsA]; omega) | (simp <;> omega)⟩, trivial⟩ fun a w h => ?_
  replace h := at_out (σ' := ⟨[(0, aF s27 x0), (2, .p (.c (cN))), (3, aS 1), (4, aI (((i : Nat) : Int) + 1))], [(1, oF s27 ((List.take i x0) ++ ([(([] : List Int) ++ (x0.getD i []))])))]⟩) { ts := [0, 2, 3, 4], os := [5], rn := [(5, 1)] } h (by kernel_rfl)
  exact ⟨i + 1, at_eq h (st_congr2 (fun (d0 : List (List Int)) (d1 : Int) => (⟨[(0, aF s27 x0), (2, .p (.c (cN))), (3, aS 1), (4, aI d1)], [(1, oF s27 d0)]⟩ : St)) (show (((List.take i x0) ++ ([(([] : List Int) ++ (x0.getD i []))])) : List (List Int)) = (List.take (i + 1) x0) from by first | with_reducible rfl | (first | (rw [take_snoc (z := []) (by omega)]; done) | (rw [take_snoc (z := []) (by omega)]; rfl)) | rfl) (show (((i : Nat) : Int) + 1 : Int) = (((i + 1) : Nat) : Int) from by first | with_reducible rfl | (omega) | rfl)), (by omega), (by omega)⟩
 ·replace h1 : ¬ (((i : Nat) : Int) < ((List.length x0 : Nat) : Int)) := of_decide_eq_false h1
  refine wp_exit (then_exit (then_exit (in_hit (then_normal (wp_seq ?_)))))
  refine at_regq [] { ts := [2], os := [1] } [] gamOK hT h (by kernel_rfl) trivial fun a w h => then_normal (wp_ret ?_)
  exact at_return ((List.take i x0), ()) [] h (by kernel_rfl) trivial (congrArg (fun z => (z, ())) (show ((List.take i x0)) = (idD s24) x0 from by (rw [take_all (by omega)]; rfl)))

def S_spec_EqualMatrices : Sum := { fid := 141, dom := [s24, s24], cod := [(.bool 4)], dp := true, fz := false, pre := fun x => True, g := fun x => (((Sh.eqB s24) x.1 x.2.1), ()) }
def S_spec_EqualMatrices_tab : List (Nat × Sum) := [(172, S_spec_EqualInts)]
theorem S_spec_EqualMatrices_ok : FnOK Try.prog 141 S_spec_EqualMatrices := by
 refine at_enter 27 (fun x => ⟨[(0, aF s27 x.1), (1, aF s27 x.2.1)], []⟩) Try.func141 rfl (by kernel_rfl) (fun x => rfl) ?_
 rintro w0 Z0 ⟨x0, x1, u⟩ a w
 revert x0 x1
 intro (x0 : (List (List Int))) (x1 : (List (List Int))) hpre hlens h
 have hl1 : List.length x0 ≤ 9223372036854775807 := hlens.1.1
 have hl2 : List.length x1 ≤ 9223372036854775807 := hlens.2.1.1
 have hT : TabOK Try.prog S_spec_EqualMatrices_tab := (.cons S_spec_EqualInts_ok .nil)
 refine wp_seq ?_
 refine at_regq [] { ts := [0, 1, 4], os := [] } [] gamOK hT h (by kernel_rfl) trivial fun a w h => then_normal (wp_seq (wp_seq ?_))
 refine at_regq [] { ts := [0, 1, 4, 10], os := [] } [] gamOK hT h (by kernel_rfl) trivial fun a w h => then_normal ?_
 refine at_test (!decide (((List.length x0 : Nat) : Int) = ((List.length x1 : Nat) : Int))) h (by kernel_rfl) (fun h1 => ?_) (fun h1 => ?_)
 ·replace h1 : ¬ (((List.length x0 : Nat) : Int) = ((List.length x1 : Nat) : Int)) := of_decide_eq_false (notT h1)
  refine wp_seq ?_
  refine at_regq [] { ts := [0, 1, 4], os := [] } [] gamOK hT h (by kernel_rfl) trivial fun a w h => then_normal (wp_ret (then_ret ?_))
  exact at_return (false, ()) [] h (by kernel_rfl) trivial (congrArg (fun z => (z, ())) (show (false) = (Sh.eqB s24) x0 x1 from by (show _ = Sh.eqB s24 x0 x1; first | exact (Sh.eqB_ne (fun e => by subst e; simp_all [Sh.eqB_self])).symm | (have e := hok0.2; rw [take_all (by omega), take_all (by omega)] at e; exact ((Sh.eqB_iff s24).2 e).symm))))
 ·replace h1 : ((List.length x0 : Nat) : Int) = ((List.length x1 : Nat) : Int) := of_decide_eq_true (notF h1)
  refine wp_skip (then_normal (wp_seq (wp_seq ?_)))
  refine at_regq [] { ts := [0, 1, 4, 5], os := [] } [] gamOK hT h (by kernel_rfl) trivial fun a w h => then_normal (wp_block ?_)
  replace h := at_out (σ' := ⟨[(0, aF s27 x0), (1, aF s27 x1), (4, aB false), (5, aI 0)], []⟩) { ts := [0, 1, 4, 5], os := [] } h (by kernel_rfl)
  refine at_loop (fun i : Nat => (⟨[(0, aF s27 x0), (1, aF s27 x1), (4, aB false), (5, aI ((i : Nat) : Int))], []⟩ : St)) (fun i => (i ≤ List.length x0 ∧ x0.take i = x1.take i)) (fun i => List.length x0 - i) (0) h (st_congr1 (fun (d0 : Int) => (⟨[(0, aF s27 x0), (1, aF s27 x1), (4, aB false), (5, aI d0)], []⟩ : St)) (show (0 : Int) = (((0) : Nat) : Int) from by first | with_reducible rfl | (rfl) | rfl)) (by exact ⟨Nat.zero_le _, rfl⟩) ?_
  intro i a w hok0 h
  refine wp_seq (wp_seq ?_)
  refine at_regq [] { ts := [0, 1, 4, 5, 14], os := [] } [] gamOK hT h (by kernel_rfl) trivial fun a w h => then_normal ?_
  refine at_test (decide (((i : Nat) : Int) < ((List.length x0 : Nat) : Int))) h (by kernel_rfl) (fun h2 => ?_) (fun h2 => ?_)
  ·replace h2 : ((i : Nat) : Int) < ((List.length x0 : Nat) : Int) := of_decide_eq_true h2
   refine wp_skip (then_normal (wp_seq (wp_block (wp_seq ?_))))
   refine at_anyq [{}, {}, {}, {}, {}, {}, {}, {}, {}, {}] { ts := [0, 1, 4, 5, 26], os := [] } [(0 : Int) ≤ ((i : Nat) : Int) ∧ ((i : Nat) : Int) < ((List.length x0 : Nat) : Int), (0 : Int) ≤ ((i : Nat) : Int) ∧ ((i : Nat) : Int) < ((List.length x1 : Nat) : Int), True] gamOK hT mixed h (by kernel_rfl) ⟨(by refine ⟨?_, ?_⟩ <;> (first | omega | (simp only [lsA]; omega) | (simp <;> omega))), (by refine ⟨?_, ?_⟩ <;> (first | omega | (simp only [lsA]; omega) | (simp <;> omega))), trivial, trivial⟩ fun a w h => then_normal ?_
   refine at_test (!((Sh.eqB s27) (x0.getD i []) (x1.getD i []))) h (by kernel_rfl) (fun h3 => ?_) (fun h3 => ?_)
   ·replace h3 : ((Sh.eqB s27) (x0.getD i []) (x1.getD i [])) = false := notT h3
    refine wp_seq ?_
    refine at_regq [] { ts := [0, 1, 4, 5], os := [] } [] gamOK hT h (by kernel_rfl) trivial fun a w h => then_normal (wp_ret (in_ret (then_ret (then_ret (in_ret (then_ret ?_))))))
    exact at_return (false, ()) [] h (by kernel_rfl) trivial (congrArg (fun z => (z, ())) (show (false) = (Sh.eqB s24) x0 x1 from by (show _ = Sh.eqB s24 x0 x1; first | exact (Sh.eqB_ne (fun e => by subst e; simp_all [Sh.eqB_self])).symm | (have e := hok0.2; rw [take_all (by omega), take_all (by omega)] at e; exact ((Sh.eqB_iff s24).2 e).symm))))
   ·replace h3 : ((Sh.eqB s27) (x0.getD i []) (x1.getD i [])) = true := notF h3
    refine wp_skip (in_normal (then_normal ?_))
    refine at_regq [{}, { nw := true }] { ts := [0, 1, 4, 5], os := [] } [I64 (((i : Nat) : Int) + 1)] gamOK hT h (by kernel_rfl) ⟨⟨by first | omega | (simp only [lsA]; omega) | (simp <;> omega), by first | omega | (simp only [lsA]; omega) | (simp <;> omega)⟩, trivial⟩ fun a w h => ?_
    replace h := at_out (σ' := ⟨[(0, aF s27 x0), (1, aF s27 x1), (4, aB false), (5, aI (((i : Nat) : Int) + 1))], []⟩) { ts := [0, 1, 4, 5], os := [] } h (by kernel_rfl)
    exact ⟨i + 1, at_eq h (st_congr1 (fun (d0 : Int) => (⟨[(0, aF s27 x0), (1, aF s27 x1), (4, aB false), (5, aI d0)], []⟩ : St)) (show (((i : Nat) : Int) + 1 : Int) = (((i + 1) : Nat) : Int) from by first | with_reducible rfl | (omega) | rfl)), (by exact ⟨by omega, eqTo_step (z := []) (by omega) (by omega) hok0.2 (Sh.of_eqB (by assumption))⟩), (by omega)⟩
  ·replace h2 : ¬ (((i : Nat) : Int) < ((List.length x0 : Nat) : Int)) := of_decide_eq_false h2
   refine wp_exit (then_exit (then_exit (in_hit (then_normal (wp_seq ?_)))))
   refine at_regq [] { ts := [4], os := [] } [] gamOK hT h (by kernel_rfl) trivial fun a w h => then_normal (wp_ret ?_)
   exact at_return (true, ()) [] h (by kernel_rfl) trivial (congrArg (fun z => (z, ())) (show (true) = (Sh.eqB s24) x0 x1 from by (show _ = Sh.eqB s24 x0 x1; first | exact (Sh.eqB_ne (fun e => by subst e; simp_all [Sh.eqB_self])).symm | (have e := hok0.2; rw [take_all (by omega), take_all (by omega)] at e; exact ((Sh.eqB_iff s24).2 e).symm))))

def validM (x0 : (List (List Int))) : Bool := (if (List.all x0 (fun r => validV r && decide (List.length r = List.length (x0.getD 0 [])))) = true then decide (((List.length x0 : Nat) : Int) ≤ 40) else false)
abbrev Q_impl_IsValidMatrix := (fun (x0 : (List (List Int))) => Sh.fit s24 x0)
def S_impl_IsValidMatrix : Sum := { fid := 145, dom := [s24], cod := [(.bool 4)], dp := true, fz := false, pre := fun x => Q_impl_IsValidMatrix x.1, g := fun x => ((validM x.1), ()) }
def S_impl_IsValidMatrix_tab : List (Nat × Sum) := [(112, S_impl_IsValidVector)]
theorem S_impl_IsValidMatrix_ok : FnOK Try.prog 145 S_impl_IsValidMatrix := by
 refine at_enter 27 (fun x => ⟨[(0, aF s27 x.1)], []⟩) Try.func145 rfl (by kernel_rfl) (fun x => rfl) ?_
 rintro w0 Z0 ⟨x0, u⟩ a w
 revert x0
 intro (x0 : (List (List Int))) hpre hlens h
 replace hpre : Q_impl_IsValidMatrix x0 := hpre
 have hT : TabOK Try.prog S_impl_IsValidMatrix_tab := (.cons S_impl_IsValidVector_ok .nil)
 have hf0 : Sh.fit s24 x0 := hpre
 have hn0_1 : List.length x0 ≤ 1073741824 := hf0.1
 refine wp_seq ?_
 refine at_regq [] { ts := [0, 2], os := [] } [] gamOK hT h (by kernel_rfl) trivial fun a w h => then_normal (wp_seq (wp_seq ?_))
 refine at_regq [] { ts := [0, 2, 5, 6, 7], os := [] } [] gamOK hT h (by kernel_rfl) trivial fun a w h => then_normal (wp_block ?_)
 replace h := at_out (σ' := ⟨[(0, aF s27 x0), (2, aB false), (5, aF s27 x0), (6, aI ((List.length x0 : Nat) : Int)), (7, aI 0)], []⟩) { ts := [0, 2, 5, 6, 7], os := [] } h (by kernel_rfl)
 refine at_loop (fun i : Nat => (⟨[(0, aF s27 x0), (2, aB false), (5, aF s27 x0), (6, aI ((List.length x0 : Nat) : Int)), (7, aI ((i : Nat) : Int))], []⟩ : St)) (fun i => (i ≤ List.length x0 ∧ allTo1 (fun r => validV r && decide (List.length r = List.length (x0.getD 0 []))) x0 [] i)) (fun i => List.length x0 - i) (0) h (st_congr1 (fun (d0 : Int) => (⟨[(0, aF s27 x0), (2, aB false), (5, aF s27 x0), (6, aI ((List.length x0 : Nat) : Int)), (7, aI d0)], []⟩ : St)) (show (0 : Int) = (((0) : Nat) : Int) from by first | with_reducible rfl | (rfl) | rfl)) (by exact ⟨Nat.zero_le _, allTo1_zero⟩) ?_
 intro i a w hok0 h
 refine wp_seq ?_
 refine at_regq [] { ts := [0, 2, 5, 6, 7, 8], os := [] } [] gamOK hT h (by kernel_rfl) trivial fun a w h => then_normal (wp_seq ?_)
 refine at_test (decide (((i : Nat) : Int) < ((List.length x0 : Nat) : Int))) h (by kernel_rfl) (fun h1 => ?_) (fun h1 => ?_)
 ·replace h1 : ((i : Nat) : Int) < ((List.length x0 : Nat) : Int) := of_decide_eq_true h1
  refine wp_skip (then_normal (wp_seq (wp_block (wp_seq ?_))))
  refine at_regq [] { ts := [0, 2, 4, 5, 6, 7], os := [] } [(0 : Int) ≤ ((i : Nat) : Int) ∧ ((i : Nat) : Int) < ((List.length x0 : Nat) : Int)] gamOK hT h (by kernel_rfl) ⟨(by refine ⟨?_, ?_⟩ <;> (first | omega | (simp only [lsA]; omega) | (simp <;> omega))), trivial⟩ fun a w h => then_normal (wp_seq ?_)
  rcases Bool.eq_false_or_eq_true (!(validV (x0.getD i []))) with h2 | h2
  ·have hzh2 : (validV (x0.getD i [])) = false := notT h2
   refine at_regq [{}, {}, { hint := some (aB true) }] { ts := [0, 2, 5, 6, 7, 15, 16, 17, 18, 19, 20, 21, 22], os := [] } [Q_impl_IsValidVector (x0.getD i []), (AV.p (.c (.v (.bool (!(validV (x0.getD i [])))))) = AV.p (.c (.v (.bool true))))] gamOK hT h (by kernel_rfl) ⟨(by exact (Sh.fit_getD hf0 i)), hint_bool (h2), trivial⟩ fun a w h => then_normal ?_
   refine at_test true h (by kernel_rfl) (fun hh => ?_) (fun hh => nomatch hh)
   refine wp_seq ?_
   refine at_regq [] { ts := [0, 2, 5, 6, 7, 15, 16, 17, 18, 19, 20, 21], os := [] } [] gamOK hT h (by kernel_rfl) trivial fun a w h => then_normal (wp_ret (in_ret (then_ret ?_)))
   have hs3 : (List.all x0 (fun r => validV r && decide (List.length r = List.length (x0.getD 0 [])))) = false := by exact all_at (z := []) (i := i) (by omega) (by (show ((validV _) && _) = false; rw [Bool.and_eq_false_iff]; first | (left; assumption) | (right; exact decide_eq_false (by omega))))
   refine then_ret (in_ret (then_ret ?_))
   exact at_return (false, ()) [] h (by kernel_rfl) trivial (congrArg (fun z => (z, ())) (show (false) = validM x0 from by first | rfl | (unfold validM; rw [if_neg (neT hs3)])))
  ·have hzh2 : (validV (x0.getD i [])) = true := notF h2
   have hvh2 := validV_t (notF h2)
   refine at_regq [{}, {}, { hint := some (aB false) }] { ts := [0, 2, 5, 6, 7, 15, 16, 17, 18, 19, 20, 21, 22], os := [] } [Q_impl_IsValidVector (x0.getD i []), (AV.p (.c (.v (.bool (!(validV (x0.getD i [])))))) = AV.p (.c (.v (.bool false)))), (0 : Int) ≤ 0 ∧ 0 < ((List.length x0 : Nat) : Int)] gamOK hT h (by kernel_rfl) ⟨(by exact (Sh.fit_getD hf0 i)), hint_bool (h2), (by refine ⟨?_, ?_⟩ <;> (first | omega | (simp only [lsA]; omega) | (simp <;> omega))), trivial⟩ fun a w h => then_normal ?_
   refine at_test (!decide (((List.length (x0.getD i []) : Nat) : Int) = ((List.length (x0.getD 0 []) : Nat) : Int))) h (by kernel_rfl) (fun h4 => ?_) (fun h4 => ?_)
   ·replace h4 : ¬ (((List.length (x0.getD i []) : Nat) : Int) = ((List.length (x0.getD 0 []) : Nat) : Int)) := of_decide_eq_false (notT h4)
    refine wp_seq ?_
    refine at_regq [] { ts := [0, 2, 5, 6, 7, 15, 16, 17, 18, 19, 20, 21], os := [] } [] gamOK hT h (by kernel_rfl) trivial fun a w h => then_normal (wp_ret (in_ret (then_ret ?_)))
    have hs5 : (List.all x0 (fun r => validV r && decide (List.length r = List.length (x0.getD 0 [])))) = false := by exact all_at (z := []) (i := i) (by omega) (by (show ((validV _) && _) = false; rw [Bool.and_eq_false_iff]; first | (left; assumption) | (right; exact decide_eq_false (by omega))))
    refine then_ret (in_ret (then_ret ?_))
    exact at_return (false, ()) [] h (by kernel_rfl) trivial (congrArg (fun z => (z, ())) (show (false) = validM x0 from by first | rfl | (unfold validM; rw [if_neg (neT hs5)])))
   ·replace h4 : ((List.length (x0.getD i []) : Nat) : Int) = ((List.length (x0.getD 0 []) : Nat) : Int) := of_decide_eq_true (notF h4)
    refine wp_skip (in_normal (then_normal ?_))
    refine at_regq [{ nw := true }] { ts := [0, 2, 5, 6, 7, 15, 16, 17, 18, 19, 20, 21], os := [] } [I64 (((i : Nat) : Int) + 1)] gamOK hT h (by kernel_rfl) ⟨⟨by first | omega | (simp only [lsA]; omega) | (simp <;> omega), by first | omega | (simp only [lsA]; omega) | (simp <;> omega)⟩, trivial⟩ fun a w h => ?_
    replace h := at_out (σ' := ⟨[(0, aF s27 x0), (2, aB false), (5, aF s27 x0), (6, aI ((List.length x0 : Nat) : Int)), (7, aI (((i : Nat) : Int) + 1))], []⟩) { ts := [0, 2, 5, 6, 7], os := [] } h (by kernel_rfl)
    exact ⟨i + 1, at_eq h (st_congr1 (fun (d0 : Int) => (⟨[(0, aF s27 x0), (2, aB false), (5, aF s27 x0), (6, aI ((List.length x0 : Nat) : Int)), (7, aI d0)], []⟩ : St)) (show (((i : Nat) : Int) + 1 : Int) = (((i + 1) : Nat) : Int) from by first | with_reducible rfl | (omega) | rfl)), (by exact ⟨by omega, allTo1_succ hok0.2 (by (show ((validV _) && _) = true; rw [Bool.and_eq_true]; exact ⟨by assumption, decide_eq_true (by omega)⟩))⟩), (by omega)⟩
 ·replace h1 : ¬ (((i : Nat) : Int) < ((List.length x0 : Nat) : Int)) := of_decide_eq_false h1
  refine wp_exit (then_exit ?_)
  have hs6 : (List.all x0 (fun r => validV r && decide (List.length r = List.length (x0.getD 0 [])))) = true := by exact all_of (z := []) (i := i) (by omega) hok0.2
  refine then_exit (in_hit (then_normal (wp_seq ?_)))
  refine at_regq [] { ts := [2], os := [] } [] gamOK hT h (by kernel_rfl) trivial fun a w h => then_normal (wp_ret ?_)
  exact at_return (decide (((List.length x0 : Nat) : Int) ≤ 40), ()) [] h (by kernel_rfl) trivial (congrArg (fun z => (z, ())) (show (decide (((List.length x0 : Nat) : Int) ≤ 40)) = validM x0 from by first | rfl | (unfold validM; rw [if_pos hs6])))
theorem validM_t {m : List (List Int)} (h : validM m = true) : List.length m ≤ 40 ∧ (∀ r ∈ m, validV r = true ∧ List.length r = List.length (m.getD 0 [])) := by
 unfold validM at h
 split at h
 ·rename_i ha
  have := of_decide_eq_true h
  refine ⟨by omega, fun r hr => ?_⟩
  have := List.all_eq_true.1 ha r hr
  rw [Bool.and_eq_true] at this
  exact ⟨this.1, of_decide_eq_true this.2⟩
 ·cases h
theorem validM_ok {m : List (List Int)} (h : validM m = true) : ∀ r ∈ m, LA.VokB (List.length (m.getD 0 [])) r := fun r hr => ⟨((validM_t h).2 r hr).2, (validV_t ((validM_t h).2 r hr).1).2.1⟩
theorem validM_at {m : List (List Int)} (h : validM m = true) (j : Nat) (hj : j < m.length) : List.length (m.getD j []) = List.length (m.getD 0 []) := ((validM_t h).2 _ (getD_mem hj)).2

abbrev Q_spec_IsValidMatrix := (fun (x0 : (List (List Int))) => Sh.fit s24 x0)
def S_spec_IsValidMatrix : Sum := { fid := 110, dom := [s24], cod := [(.bool 4)], dp := true, fz := false, pre := fun x => Q_spec_IsValidMatrix x.1, g := fun x => ((validM x.1), ()) }
def S_spec_IsValidMatrix_tab : List (Nat × Sum) := [(31, S_spec_IsValidVector)]
theorem S_spec_IsValidMatrix_ok : FnOK Try.prog 110 S_spec_IsValidMatrix := by
 refine at_enter 31 (fun x => ⟨[(0, aF s27 x.1)], []⟩) Try.func110 rfl (by kernel_rfl) (fun x => rfl) ?_
 rintro w0 Z0 ⟨x0, u⟩ a w
 revert x0
 intro (x0 : (List (List Int))) hpre hlens h
 replace hpre : Q_spec_IsValidMatrix x0 := hpre
 have hT : TabOK Try.prog S_spec_IsValidMatrix_tab := (.cons S_spec_IsValidVector_ok .nil)
 have hf0 : Sh.fit s24 x0 := hpre
 have hn0_1 : List.length x0 ≤ 1073741824 := hf0.1
 refine wp_seq ?_
 refine at_regq [] { ts := [0, 2], os := [] } [] gamOK hT h (by kernel_rfl) trivial fun a w h => then_normal (wp_seq (wp_seq ?_))
 refine at_regq [] { ts := [0, 2, 3], os := [] } [] gamOK hT h (by kernel_rfl) trivial fun a w h => then_normal (wp_block ?_)
 replace h := at_out (σ' := ⟨[(0, aF s27 x0), (2, aB false), (3, aI 0)], []⟩) { ts := [0, 2, 3], os := [] } h (by kernel_rfl)
 refine at_loop (fun i : Nat => (⟨[(0, aF s27 x0), (2, aB false), (3, aI ((i : Nat) : Int))], []⟩ : St)) (fun i => (i ≤ List.length x0 ∧ allTo1 (fun r => validV r && decide (List.length r = List.length (x0.getD 0 []))) x0 [] i)) (fun i => List.length x0 - i) (0) h (st_congr1 (fun (d0 : Int) => (⟨[(0, aF s27 x0), (2, aB false), (3, aI d0)], []⟩ : St)) (show (0 : Int) = (((0) : Nat) : Int) from by first | with_reducible rfl | (rfl) | rfl)) (by exact ⟨Nat.zero_le _, allTo1_zero⟩) ?_
 intro i a w hok0 h
 refine wp_seq (wp_seq ?_)
 refine at_regq [] { ts := [0, 2, 3, 7], os := [] } [] gamOK hT h (by kernel_rfl) trivial fun a w h => then_normal ?_
 refine at_test (decide (((i : Nat) : Int) < ((List.length x0 : Nat) : Int))) h (by kernel_rfl) (fun h1 => ?_) (fun h1 => ?_)
 ·replace h1 : ((i : Nat) : Int) < ((List.length x0 : Nat) : Int) := of_decide_eq_true h1
  refine wp_skip (then_normal (wp_seq (wp_block (wp_seq ?_))))
  rcases Bool.eq_false_or_eq_true (!(validV (x0.getD i []))) with h2 | h2
  ·have hzh2 : (validV (x0.getD i [])) = false := notT h2
   refine at_anyq [{}, {}, {}, {}, {}, { hint := some (aB true) }, {}, {}, {}, {}, {}, {}, {}, {}, {}, {}, {}, {}] { ts := [0, 2, 3, 17, 18, 19, 20, 21, 22, 23, 24, 25, 26, 27], os := [] } [(0 : Int) ≤ ((i : Nat) : Int) ∧ ((i : Nat) : Int) < ((List.length x0 : Nat) : Int), Q_spec_IsValidVector (x0.getD i []), (AV.p (.c (.v (.bool (!(validV (x0.getD i [])))))) = AV.p (.c (.v (.bool true))))] gamOK hT mixed h (by kernel_rfl) ⟨(by refine ⟨?_, ?_⟩ <;> (first | omega | (simp only [lsA]; omega) | (simp <;> omega))), (by exact (Sh.fit_getD hf0 i)), hint_bool (h2), trivial⟩ fun a w h => then_normal ?_
   refine at_test true h (by kernel_rfl) (fun hh => ?_) (fun hh => nomatch hh)
   refine wp_seq ?_
   refine at_regq [] { ts := [0, 2, 3, 17, 18, 19, 20, 21, 22, 23, 24, 25, 26], os := [] } [] gamOK hT h (by kernel_rfl) trivial fun a w h => then_normal (wp_ret (in_ret (then_ret ?_)))
   have hs3 : (List.all x0 (fun r => validV r && decide (List.length r = List.length (x0.getD 0 [])))) = false := by exact all_at (z := []) (i := i) (by omega) (by (show ((validV _) && _) = false; rw [Bool.and_eq_false_iff]; first | (left; assumption) | (right; exact decide_eq_false (by omega))))
   refine then_ret (in_ret (then_ret ?_))
   exact at_return (false, ()) [] h (by kernel_rfl) trivial (congrArg (fun z => (z, ())) (show (false) = validM x0 from by first | rfl | (unfold validM; rw [if_neg (neT hs3)]; done) | (unfold validM; simp_all)))
  ·have hzh2 : (validV (x0.getD i [])) = true := notF h2
   have hvh2 := validV_t (notF h2)
   refine at_anyq [{}, {}, {}, {}, {}, { hint := some (aB false) }, {}, {}, {}, {}, {}, {}, {}, {}, {}, {}, {}, {}] { ts := [0, 2, 3, 17, 18, 19, 20, 21, 22, 23, 24, 25, 26, 27], os := [] } [(0 : Int) ≤ ((i : Nat) : Int) ∧ ((i : Nat) : Int) < ((List.length x0 : Nat) : Int), Q_spec_IsValidVector (x0.getD i []), (AV.p (.c (.v (.bool (!(validV (x0.getD i [])))))) = AV.p (.c (.v (.bool false)))), (0 : Int) ≤ ((i : Nat) : Int) ∧ ((i : Nat) : Int) < ((List.length x0 : Nat) : Int), (0 : Int) ≤ 0 ∧ 0 < ((List.length x0 : Nat) : Int)] gamOK hT mixed h (by kernel_rfl) ⟨(by refine ⟨?_, ?_⟩ <;> (first | omega | (simp only [lsA]; omega) | (simp <;> omega))), (by exact (Sh.fit_getD hf0 i)), hint_bool (h2), (by refine ⟨?_, ?_⟩ <;> (first | omega | (simp only [lsA]; omega) | (simp <;> omega))), (by refine ⟨?_, ?_⟩ <;> (first | omega | (simp only [lsA]; omega) | (simp <;> omega))), trivial⟩ fun a w h => then_normal ?_
   refine at_test (!decide (((List.length (x0.getD i []) : Nat) : Int) = ((List.length (x0.getD 0 []) : Nat) : Int))) h (by kernel_rfl) (fun h4 => ?_) (fun h4 => ?_)
   ·replace h4 : ¬ (((List.length (x0.getD i []) : Nat) : Int) = ((List.length (x0.getD 0 []) : Nat) : Int)) := of_decide_eq_false (notT h4)
    refine wp_seq ?_
    refine at_regq [] { ts := [0, 2, 3, 17, 18, 19, 20, 21, 22, 23, 24, 25, 26], os := [] } [] gamOK hT h (by kernel_rfl) trivial fun a w h => then_normal (wp_ret (in_ret (then_ret ?_)))
    have hs5 : (List.all x0 (fun r => validV r && decide (List.length r = List.length (x0.getD 0 [])))) = false := by exact all_at (z := []) (i := i) (by omega) (by (show ((validV _) && _) = false; rw [Bool.and_eq_false_iff]; first | (left; assumption) | (right; exact decide_eq_false (by omega))))
    refine then_ret (in_ret (then_ret ?_))
    exact at_return (false, ()) [] h (by kernel_rfl) trivial (congrArg (fun z => (z, ())) (show (false) = validM x0 from by first | rfl | (unfold validM; rw [if_neg (neT hs5)]; done) | (unfold validM; simp_all)))
   ·replace h4 : ((List.length (x0.getD i []) : Nat) : Int) = ((List.length (x0.getD 0 []) : Nat) : Int) := of_decide_eq_true (notF h4)
    refine wp_skip (in_normal (then_normal ?_))
    refine at_regq [{}, { nw := true }] { ts := [0, 2, 3, 17, 18, 19, 20, 21, 22, 23, 24, 25, 26], os := [] } [I64 (((i : Nat) : Int) + 1)] gamOK hT h (by kernel_rfl) ⟨⟨by first | omega | (simp only [lsA]; omega) | (simp <;> omega), by first | omega | (simp only [lsA]; omega) | (simp <;> omega)⟩, trivial⟩ fun a w h => ?_
    replace h := at_out (σ' := ⟨[(0, aF s27 x0), (2, aB false), (3, aI (((i : Nat) : Int) + 1))], []⟩) { ts := [0, 2, 3], os := [] } h (by kernel_rfl)
    exact ⟨i + 1, at_eq h (st_congr1 (fun (d0 : Int) => (⟨[(0, aF s27 x0), (2, aB false), (3, aI d0)], []⟩ : St)) (show (((i : Nat) : Int) + 1 : Int) = (((i + 1) : Nat) : Int) from by first | with_reducible rfl | (omega) | rfl)), (by exact ⟨by omega, allTo1_succ hok0.2 (by (show ((validV _) && _) = true; rw [Bool.and_eq_true]; exact ⟨by assumption, decide_eq_true (by omega)⟩))⟩), (by omega)⟩
 ·replace h1 : ¬ (((i : Nat) : Int) < ((List.length x0 : Nat) : Int)) := of_decide_eq_false h1
  refine wp_exit (then_exit ?_)
  have hs6 : (List.all x0 (fun r => validV r && decide (List.length r = List.length (x0.getD 0 [])))) = true := by exact all_of (z := []) (i := i) (by omega) hok0.2
  refine then_exit (in_hit (then_normal (wp_seq ?_)))
  refine at_regq [] { ts := [2], os := [] } [] gamOK hT h (by kernel_rfl) trivial fun a w h => then_normal (wp_ret ?_)
  exact at_return (decide (((List.length x0 : Nat) : Int) ≤ 40), ()) [] h (by kernel_rfl) trivial (congrArg (fun z => (z, ())) (show (decide (((List.length x0 : Nat) : Int) ≤ 40)) = validM x0 from by first | rfl | (unfold validM; rw [if_pos hs6]; done) | (unfold validM; simp_all)))

def colsOf (x0 : (List (List Int))) : Int := (if ((List.length x0 : Nat) : Int) = 0 then 0 else ((List.length (x0.getD 0 []) : Nat) : Int))
abbrev Q_impl_ColumnsOf := (fun (x0 : (List (List Int))) => Sh.fit s24 x0)
def S_impl_ColumnsOf : Sum := { fid := 105, dom := [s24], cod := [(.int 3)], dp := true, fz := false, pre := fun x => Q_impl_ColumnsOf x.1, g := fun x => ((colsOf x.1), ()) }
def S_impl_ColumnsOf_tab : List (Nat × Sum) := []
theorem S_impl_ColumnsOf_ok : FnOK Try.prog 105 S_impl_ColumnsOf := by
 refine at_enter 10 (fun x => ⟨[(0, aF s27 x.1)], []⟩) Try.func105 rfl (by kernel_rfl) (fun x => rfl) ?_
 rintro w0 Z0 ⟨x0, u⟩ a w
 revert x0
 intro (x0 : (List (List Int))) hpre hlens h
 replace hpre : Q_impl_ColumnsOf x0 := hpre
 have hT : TabOK Try.prog S_impl_ColumnsOf_tab := .nil
 have hf0 : Sh.fit s24 x0 := hpre
 have hn0_1 : List.length x0 ≤ 1073741824 := hf0.1
 refine wp_seq ?_
 refine at_regq [] { ts := [0, 2], os := [] } [] gamOK hT h (by kernel_rfl) trivial fun a w h => then_normal (wp_seq (wp_seq ?_))
 refine at_regq [] { ts := [0, 2, 5], os := [] } [] gamOK hT h (by kernel_rfl) trivial fun a w h => then_normal ?_
 refine at_test (decide (((List.length x0 : Nat) : Int) = 0)) h (by kernel_rfl) (fun h1 => ?_) (fun h1 => ?_)
 ·replace h1 : ((List.length x0 : Nat) : Int) = 0 := of_decide_eq_true h1
  refine wp_seq ?_
  refine at_regq [] { ts := [0, 2], os := [] } [] gamOK hT h (by kernel_rfl) trivial fun a w h => then_normal (wp_ret (then_ret ?_))
  exact at_return (0, ()) [] h (by kernel_rfl) trivial (congrArg (fun z => (z, ())) (show (0) = colsOf x0 from by first | rfl | (unfold colsOf; rw [if_pos h1])))
 ·replace h1 : ¬ (((List.length x0 : Nat) : Int) = 0) := of_decide_eq_false h1
  refine wp_skip (then_normal (wp_seq ?_))
  refine at_regq [] { ts := [2], os := [] } [(0 : Int) ≤ 0 ∧ 0 < ((List.length x0 : Nat) : Int)] gamOK hT h (by kernel_rfl) ⟨(by refine ⟨?_, ?_⟩ <;> (first | omega | (simp only [lsA]; omega) | (simp <;> omega))), trivial⟩ fun a w h => then_normal (wp_ret ?_)
  exact at_return (((List.length (x0.getD 0 []) : Nat) : Int), ()) [] h (by kernel_rfl) trivial (congrArg (fun z => (z, ())) (show (((List.length (x0.getD 0 []) : Nat) : Int)) = colsOf x0 from by first | rfl | (unfold colsOf; rw [if_neg h1])))

abbrev Q_spec_ColumnsOf := (fun (x0 : (List (List Int))) => Sh.fit s24 x0)
def S_spec_ColumnsOf : Sum := { fid := 101, dom := [s24], cod := [(.int 3)], dp := true, fz := false, pre := fun x => Q_spec_ColumnsOf x.1, g := fun x => ((colsOf x.1), ()) }
def S_spec_ColumnsOf_tab : List (Nat × Sum) := []
theorem S_spec_ColumnsOf_ok : FnOK Try.prog 101 S_spec_ColumnsOf := by
 refine at_enter 10 (fun x => ⟨[(0, aF s27 x.1)], []⟩) Try.func101 rfl (by kernel_rfl) (fun x => rfl) ?_
 rintro w0 Z0 ⟨x0, u⟩ a w
 revert x0
 intro (x0 : (List (List Int))) hpre hlens h
 replace hpre : Q_spec_ColumnsOf x0 := hpre
 have hT : TabOK Try.prog S_spec_ColumnsOf_tab := .nil
 have hf0 : Sh.fit s24 x0 := hpre
 have hn0_1 : List.length x0 ≤ 1073741824 := hf0.1
 refine wp_seq ?_
 refine at_regq [] { ts := [0, 2], os := [] } [] gamOK hT h (by kernel_rfl) trivial fun a w h => then_normal (wp_seq (wp_seq ?_))
 refine at_regq [] { ts := [0, 2, 5], os := [] } [] gamOK hT h (by kernel_rfl) trivial fun a w h => then_normal ?_
 refine at_test (decide (((List.length x0 : Nat) : Int) = 0)) h (by kernel_rfl) (fun h1 => ?_) (fun h1 => ?_)
 ·replace h1 : ((List.length x0 : Nat) : Int) = 0 := of_decide_eq_true h1
  refine wp_seq ?_
  refine at_regq [] { ts := [0, 2], os := [] } [] gamOK hT h (by kernel_rfl) trivial fun a w h => then_normal (wp_ret (then_ret ?_))
  exact at_return (0, ()) [] h (by kernel_rfl) trivial (congrArg (fun z => (z, ())) (show (0) = colsOf x0 from by first | rfl | (unfold colsOf; rw [if_pos h1]; done) | (unfold colsOf; simp_all)))
 ·replace h1 : ¬ (((List.length x0 : Nat) : Int) = 0) := of_decide_eq_false h1
  refine wp_skip (then_normal (wp_seq ?_))
  refine at_regq [] { ts := [2], os := [] } [(0 : Int) ≤ 0 ∧ 0 < ((List.length x0 : Nat) : Int)] gamOK hT h (by kernel_rfl) ⟨(by refine ⟨?_, ?_⟩ <;> (first | omega | (simp only [lsA]; omega) | (simp <;> omega))), trivial⟩ fun a w h => then_normal (wp_ret ?_)
  exact at_return (((List.length (x0.getD 0 []) : Nat) : Int), ()) [] h (by kernel_rfl) trivial (congrArg (fun z => (z, ())) (show (((List.length (x0.getD 0 []) : Nat) : Int)) = colsOf x0 from by first | rfl | (unfold colsOf; rw [if_neg h1]; done) | (unfold colsOf; simp_all)))

def isRed (x0 : (List (List Int))) : Bool := (if (validM x0) = true then (if (allN (redB x0) (List.length x0)) = true then true else false) else false)
abbrev Q_impl_IsReduced := (fun (x0 : (List (List Int))) => Sh.fit s24 x0)
def S_impl_IsReduced : Sum := { fid := 89, dom := [s24], cod := [(.bool 4)], dp := true, fz := false, pre := fun x => Q_impl_IsReduced x.1, g := fun x => ((isRed x.1), ()) }
def S_impl_IsReduced_tab : List (Nat × Sum) := [(145, S_impl_IsValidMatrix), (38, S_impl_LeadingIndex)]
theorem S_impl_IsReduced_ok : FnOK Try.prog 89 S_impl_IsReduced := by
 refine at_enter 51 (fun x => ⟨[(0, aF s27 x.1)], []⟩) Try.func89 rfl (by kernel_rfl) (fun x => rfl) ?_
 rintro w0 Z0 ⟨x0, u⟩ a w
 revert x0
 intro (x0 : (List (List Int))) hpre hlens h
 replace hpre : Q_impl_IsReduced x0 := hpre
 have hT : TabOK Try.prog S_impl_IsReduced_tab := (.cons S_impl_IsValidMatrix_ok (.cons S_impl_LeadingIndex_ok .nil))
 have hf0 : Sh.fit s24 x0 := hpre
 have hn0_1 : List.length x0 ≤ 1073741824 := hf0.1
 refine wp_seq ?_
 refine at_regq [] { ts := [0, 2], os := [] } [] gamOK hT h (by kernel_rfl) trivial fun a w h => then_normal (wp_seq (wp_seq ?_))
 refine at_regq [] { ts := [0, 2, 11], os := [] } [Q_impl_IsValidMatrix x0] gamOK hT h (by kernel_rfl) ⟨(by exact hf0), trivial⟩ fun a w h => then_normal ?_
 refine at_test (!(validM x0)) h (by kernel_rfl) (fun h1 => ?_) (fun h1 => ?_)
 ·replace h1 : (validM x0) = false := notT h1
  refine wp_seq ?_
  refine at_regq [] { ts := [0, 2], os := [] } [] gamOK hT h (by kernel_rfl) trivial fun a w h => then_normal (wp_ret (then_ret ?_))
  exact at_return (false, ()) [] h (by kernel_rfl) trivial (congrArg (fun z => (z, ())) (show (false) = isRed x0 from by first | rfl | (unfold isRed; rw [if_neg (neT h1)])))
 ·replace h1 : (validM x0) = true := notF h1
  have hvh1 := validM_t h1
  refine wp_skip (then_normal (wp_seq ?_))
  refine at_regq [] { ts := [0, 2, 3], os := [] } [] gamOK hT h (by kernel_rfl) trivial fun a w h => then_normal (wp_seq (wp_seq ?_))
  refine at_regq [] { ts := [0, 2, 3, 12, 13, 14], os := [] } [] gamOK hT h (by kernel_rfl) trivial fun a w h => then_normal (wp_block ?_)
  replace h := at_out (σ' := ⟨[(0, aF s27 x0), (2, aB false), (3, aI (-1)), (12, aF s27 x0), (13, aI ((List.length x0 : Nat) : Int)), (14, aI 0)], []⟩) { ts := [0, 2, 3, 12, 13, 14], os := [] } h (by kernel_rfl)
  refine at_loop (fun i : Nat => (⟨[(0, aF s27 x0), (2, aB false), (3, aI (prevL x0 i)), (12, aF s27 x0), (13, aI ((List.length x0 : Nat) : Int)), (14, aI ((i : Nat) : Int))], []⟩ : St)) (fun i => (i ≤ (List.length x0) ∧ allN (redB x0) i = true)) (fun i => (List.length x0) - i) (0) h (st_congr2 (fun (d0 : Int) (d1 : Int) => (⟨[(0, aF s27 x0), (2, aB false), (3, aI d0), (12, aF s27 x0), (13, aI ((List.length x0 : Nat) : Int)), (14, aI d1)], []⟩ : St)) (show ((-1) : Int) = (prevL x0 (0)) from by first | with_reducible rfl | (rfl) | rfl) (show (0 : Int) = (((0) : Nat) : Int) from by first | with_reducible rfl | (rfl) | rfl)) (by exact ⟨Nat.zero_le _, rfl⟩) ?_
  intro i a w hok0 h
  have hpv := prevL_bd x0 i
  refine wp_seq ?_
  refine at_regq [] { ts := [0, 2, 3, 12, 13, 14, 15], os := [] } [] gamOK hT h (by kernel_rfl) trivial fun a w h => then_normal (wp_seq ?_)
  refine at_test (decide (((i : Nat) : Int) < ((List.length x0 : Nat) : Int))) h (by kernel_rfl) (fun h2 => ?_) (fun h2 => ?_)
  ·replace h2 : ((i : Nat) : Int) < ((List.length x0 : Nat) : Int) := of_decide_eq_true h2
   have hvi := validM_at (m := x0) (by assumption) i
   have hld := LA.leadS_bd (x0.getD i [])
   refine wp_skip (then_normal (wp_seq (wp_block (wp_seq ?_))))
   refine at_regq [] { ts := [0, 2, 3, 4, 5, 12, 13, 14], os := [] } [(0 : Int) ≤ ((i : Nat) : Int) ∧ ((i : Nat) : Int) < ((List.length x0 : Nat) : Int)] gamOK hT h (by kernel_rfl) ⟨(by refine ⟨?_, ?_⟩ <;> (first | omega | (simp only [lsA]; omega) | (simp <;> omega))), trivial⟩ fun a w h => then_normal (wp_seq ?_)
   refine at_regq [] { ts := [0, 2, 3, 4, 5, 6, 12, 13, 14], os := [] } [Q_impl_LeadingIndex (x0.getD i [])] gamOK hT h (by kernel_rfl) ⟨(by exact (Sh.fit_getD hf0 i)), trivial⟩ fun a w h => then_normal (wp_seq (wp_seq ?_))
   by_cases h3 : (LA.leadS (x0.getD i [])) ≤ (prevL x0 i)
   ·refine at_regq [{}, {}, { hint := some (aB true) }] { ts := [0, 2, 3, 4, 6, 12, 13, 14, 25, 26, 27, 28, 29, 30], os := [] } [(AV.p (.c (.v (.bool (decide ((LA.leadS (x0.getD i [])) ≤ (prevL x0 i)))))) = AV.p (.c (.v (.bool true))))] gamOK hT h (by kernel_rfl) ⟨hint_bool (decide_eq_true h3), trivial⟩ fun a w h => then_normal ?_
    refine at_test true h (by kernel_rfl) (fun hh => ?_) (fun hh => nomatch hh)
    refine wp_seq ?_
    refine at_regq [] { ts := [0, 2, 3, 4, 6, 12, 13, 14, 25, 26, 27, 28, 29], os := [] } [] gamOK hT h (by kernel_rfl) trivial fun a w h => then_normal (wp_ret (then_ret (in_ret (then_ret ?_))))
    have hs4 : (allN (redB x0) (List.length x0)) = false := by exact allN_at (i := i) (by omega) (by first | exact redB_f1 (by omega) | exact redB_f2 (by omega) | exact redB_f3 (by assumption))
    refine then_ret (in_ret (then_ret ?_))
    exact at_return (false, ()) [] h (by kernel_rfl) trivial (congrArg (fun z => (z, ())) (show (false) = isRed x0 from by first | rfl | (unfold isRed; rw [if_pos h1, if_neg (neT hs4)])))
   ·refine at_regq [{}, {}, { hint := some (aB false) }] { ts := [0, 2, 3, 4, 6, 12, 13, 14, 25, 26, 27, 28, 29, 30], os := [] } [(AV.p (.c (.v (.bool (decide ((LA.leadS (x0.getD i [])) ≤ (prevL x0 i)))))) = AV.p (.c (.v (.bool false)))), (0 : Int) ≤ (LA.leadS (x0.getD i [])) ∧ (LA.leadS (x0.getD i [])) < ((List.length (x0.getD i []) : Nat) : Int)] gamOK hT h (by kernel_rfl) ⟨hint_bool (decide_eq_false h3), (by refine ⟨?_, ?_⟩ <;> ((have hL0 := (show List.length (x0.getD i []) ≤ 1073741824 from ((Sh.fit_getD hf0 i)).1); first | omega | (simp only [lsA]; omega) | (simp <;> omega)))), trivial⟩ fun a w h => then_normal ?_
    refine at_test (!decide (((x0.getD i []).getD (((LA.leadS (x0.getD i []))).toNat) 0) = 1)) h (by kernel_rfl) (fun h5 => ?_) (fun h5 => ?_)
    ·replace h5 : ¬ (((x0.getD i []).getD (((LA.leadS (x0.getD i []))).toNat) 0) = 1) := of_decide_eq_false (notT h5)
     refine wp_seq ?_
     refine at_regq [] { ts := [0, 2, 3, 4, 6, 12, 13, 14, 25, 26, 27, 28, 29], os := [] } [] gamOK hT h (by kernel_rfl) trivial fun a w h => then_normal (wp_ret (then_ret (in_ret (then_ret ?_))))
     have hs6 : (allN (redB x0) (List.length x0)) = false := by exact allN_at (i := i) (by omega) (by first | exact redB_f1 (by omega) | exact redB_f2 (by omega) | exact redB_f3 (by assumption))
     refine then_ret (in_ret (then_ret ?_))
     exact at_return (false, ()) [] h (by kernel_rfl) trivial (congrArg (fun z => (z, ())) (show (false) = isRed x0 from by first | rfl | (unfold isRed; rw [if_pos h1, if_neg (neT hs6)])))
    ·replace h5 : ((x0.getD i []).getD (((LA.leadS (x0.getD i []))).toNat) 0) = 1 := of_decide_eq_true (notF h5)
     refine wp_skip (then_normal (wp_seq (wp_seq ?_)))
     refine at_regq [] { ts := [0, 2, 3, 4, 6, 12, 13, 14, 25, 26, 27, 28, 29, 31, 32, 33], os := [] } [] gamOK hT h (by kernel_rfl) trivial fun a w h => then_normal (wp_block ?_)
     replace h := at_out (σ' := ⟨[(0, aF s27 x0), (2, aB false), (3, aI (prevL x0 i)), (4, aI ((i : Nat) : Int)), (6, aI (LA.leadS (x0.getD i []))), (12, aF s27 x0), (13, aI ((List.length x0 : Nat) : Int)), (14, aI ((i : Nat) : Int)), (25, aF (.int 3) (x0.getD i [])), (26, aI (LA.leadS (x0.getD i []))), (27, aR (.int 3) ((x0.getD i []).getD (((LA.leadS (x0.getD i []))).toNat) 0) 0), (28, aI ((x0.getD i []).getD (((LA.leadS (x0.getD i []))).toNat) 0)), (29, aB (!decide (((x0.getD i []).getD (((LA.leadS (x0.getD i []))).toNat) 0) = 1))), (31, aF s27 x0), (32, aI ((List.length x0 : Nat) : Int)), (33, aI 0)], []⟩) { ts := [0, 2, 3, 4, 6, 12, 13, 14, 25, 26, 27, 28, 29, 31, 32, 33], os := [] } h (by kernel_rfl)
     refine at_loop (fun k : Nat => (⟨[(0, aF s27 x0), (2, aB false), (3, aI (prevL x0 i)), (4, aI ((i : Nat) : Int)), (6, aI (LA.leadS (x0.getD i []))), (12, aF s27 x0), (13, aI ((List.length x0 : Nat) : Int)), (14, aI ((i : Nat) : Int)), (25, aF (.int 3) (x0.getD i [])), (26, aI (LA.leadS (x0.getD i []))), (27, aR (.int 3) ((x0.getD i []).getD (((LA.leadS (x0.getD i []))).toNat) 0) 0), (28, aI ((x0.getD i []).getD (((LA.leadS (x0.getD i []))).toNat) 0)), (29, aB (!decide (((x0.getD i []).getD (((LA.leadS (x0.getD i []))).toNat) 0) = 1))), (31, aF s27 x0), (32, aI ((List.length x0 : Nat) : Int)), (33, aI ((k : Nat) : Int))], []⟩ : St)) (fun k => (k ≤ (List.length x0) ∧ allN (clrB x0 i) k = true)) (fun k => (List.length x0) - k) (0) h (st_congr1 (fun (d0 : Int) => (⟨[(0, aF s27 x0), (2, aB false), (3, aI (prevL x0 i)), (4, aI ((i : Nat) : Int)), (6, aI (LA.leadS (x0.getD i []))), (12, aF s27 x0), (13, aI ((List.length x0 : Nat) : Int)), (14, aI ((i : Nat) : Int)), (25, aF (.int 3) (x0.getD i [])), (26, aI (LA.leadS (x0.getD i []))), (27, aR (.int 3) ((x0.getD i []).getD (((LA.leadS (x0.getD i []))).toNat) 0) 0), (28, aI ((x0.getD i []).getD (((LA.leadS (x0.getD i []))).toNat) 0)), (29, aB (!decide (((x0.getD i []).getD (((LA.leadS (x0.getD i []))).toNat) 0) = 1))), (31, aF s27 x0), (32, aI ((List.length x0 : Nat) : Int)), (33, aI d0)], []⟩ : St)) (show (0 : Int) = (((0) : Nat) : Int) from by first | with_reducible rfl | (rfl) | rfl)) (by exact ⟨Nat.zero_le _, rfl⟩) ?_
     intro k a w hok1 h
     refine wp_seq ?_
     refine at_regq [] { ts := [0, 2, 3, 4, 6, 12, 13, 14, 25, 26, 27, 28, 29, 31, 32, 33, 34], os := [] } [] gamOK hT h (by kernel_rfl) trivial fun a w h => then_normal (wp_seq ?_)
     refine at_test (decide (((k : Nat) : Int) < ((List.length x0 : Nat) : Int))) h (by kernel_rfl) (fun h7 => ?_) (fun h7 => ?_)
     ·replace h7 : ((k : Nat) : Int) < ((List.length x0 : Nat) : Int) := of_decide_eq_true h7
      have hvi := validM_at (m := x0) (by assumption) i
      have hld := LA.leadS_bd (x0.getD i [])
      have hvk := validM_at (m := x0) (by assumption) k
      refine wp_skip (then_normal (wp_seq (wp_block (wp_seq ?_))))
      refine at_regq [] { ts := [0, 2, 3, 4, 6, 7, 8, 12, 13, 14, 25, 26, 27, 28, 29, 31, 32, 33], os := [] } [(0 : Int) ≤ ((k : Nat) : Int) ∧ ((k : Nat) : Int) < ((List.length x0 : Nat) : Int)] gamOK hT h (by kernel_rfl) ⟨(by refine ⟨?_, ?_⟩ <;> (first | omega | (simp only [lsA]; omega) | (simp <;> omega))), trivial⟩ fun a w h => then_normal (wp_seq ?_)
      by_cases h8 : ((k : Nat) : Int) = ((i : Nat) : Int)
      ·refine at_regq [{}, {}, { hint := some (aB false) }] { ts := [0, 2, 3, 4, 6, 12, 13, 14, 25, 26, 27, 28, 29, 31, 32, 33, 42, 43, 44, 45, 46, 47], os := [] } [(AV.p (.c (.v (.bool (!decide (((k : Nat) : Int) = ((i : Nat) : Int)))))) = AV.p (.c (.v (.bool false))))] gamOK hT h (by kernel_rfl) ⟨hint_bool (ndT h8), trivial⟩ fun a w h => then_normal ?_
       refine at_test false h (by kernel_rfl) (fun hh => nomatch hh) (fun hh => ?_)
       refine wp_skip (in_normal (then_normal ?_))
       refine at_regq [{ nw := true }] { ts := [0, 2, 3, 4, 6, 12, 13, 14, 25, 26, 27, 28, 29, 31, 32, 33, 42, 43, 44, 45, 46], os := [] } [I64 (((k : Nat) : Int) + 1)] gamOK hT h (by kernel_rfl) ⟨⟨by first | omega | (simp only [lsA]; omega) | (simp <;> omega), by first | omega | (simp only [lsA]; omega) | (simp <;> omega)⟩, trivial⟩ fun a w h => ?_
       replace h := at_out (σ' := ⟨[(0, aF s27 x0), (2, aB false), (3, aI (prevL x0 i)), (4, aI ((i : Nat) : Int)), (6, aI (LA.leadS (x0.getD i []))), (12, aF s27 x0), (13, aI ((List.length x0 : Nat) : Int)), (14, aI ((i : Nat) : Int)), (25, aF (.int 3) (x0.getD i [])), (26, aI (LA.leadS (x0.getD i []))), (27, aR (.int 3) ((x0.getD i []).getD (((LA.leadS (x0.getD i []))).toNat) 0) 0), (28, aI ((x0.getD i []).getD (((LA.leadS (x0.getD i []))).toNat) 0)), (29, aB (!decide (((x0.getD i []).getD (((LA.leadS (x0.getD i []))).toNat) 0) = 1))), (31, aF s27 x0), (32, aI ((List.length x0 : Nat) : Int)), (33, aI (((k : Nat) : Int) + 1))], []⟩) { ts := [0, 2, 3, 4, 6, 12, 13, 14, 25, 26, 27, 28, 29, 31, 32, 33], os := [] } h (by kernel_rfl)
       exact ⟨k + 1, at_eq h (st_congr1 (fun (d0 : Int) => (⟨[(0, aF s27 x0), (2, aB false), (3, aI (prevL x0 i)), (4, aI ((i : Nat) : Int)), (6, aI (LA.leadS (x0.getD i []))), (12, aF s27 x0), (13, aI ((List.length x0 : Nat) : Int)), (14, aI ((i : Nat) : Int)), (25, aF (.int 3) (x0.getD i [])), (26, aI (LA.leadS (x0.getD i []))), (27, aR (.int 3) ((x0.getD i []).getD (((LA.leadS (x0.getD i []))).toNat) 0) 0), (28, aI ((x0.getD i []).getD (((LA.leadS (x0.getD i []))).toNat) 0)), (29, aB (!decide (((x0.getD i []).getD (((LA.leadS (x0.getD i []))).toNat) 0) = 1))), (31, aF s27 x0), (32, aI ((List.length x0 : Nat) : Int)), (33, aI d0)], []⟩ : St)) (show (((k : Nat) : Int) + 1 : Int) = (((k + 1) : Nat) : Int) from by first | with_reducible rfl | (omega) | rfl)), (by exact ⟨by omega, allN_succ hok1.2 (by exact clrB_t (by omega))⟩), (by omega)⟩
      ·refine at_regq [{}, {}, { hint := some (aB true) }] { ts := [0, 2, 3, 4, 6, 12, 13, 14, 25, 26, 27, 28, 29, 31, 32, 33, 42, 43, 44, 45, 46, 47], os := [] } [(AV.p (.c (.v (.bool (!decide (((k : Nat) : Int) = ((i : Nat) : Int)))))) = AV.p (.c (.v (.bool true)))), (0 : Int) ≤ (LA.leadS (x0.getD i [])) ∧ (LA.leadS (x0.getD i [])) < ((List.length (x0.getD k []) : Nat) : Int)] gamOK hT h (by kernel_rfl) ⟨hint_bool (ndF h8), (by refine ⟨?_, ?_⟩ <;> ((have hL0 := (show List.length (x0.getD k []) ≤ 1073741824 from ((Sh.fit_getD hf0 k)).1); first | omega | (simp only [lsA]; omega) | (simp <;> omega)))), trivial⟩ fun a w h => then_normal ?_
       refine at_test (!decide (((x0.getD k []).getD (((LA.leadS (x0.getD i []))).toNat) 0) = 0)) h (by kernel_rfl) (fun h9 => ?_) (fun h9 => ?_)
       ·replace h9 : ¬ (((x0.getD k []).getD (((LA.leadS (x0.getD i []))).toNat) 0) = 0) := of_decide_eq_false (notT h9)
        refine wp_seq ?_
        refine at_regq [] { ts := [0, 2, 3, 4, 6, 12, 13, 14, 25, 26, 27, 28, 29, 31, 32, 33, 42, 43, 44, 45, 46], os := [] } [] gamOK hT h (by kernel_rfl) trivial fun a w h => then_normal (wp_ret (in_ret (then_ret ?_)))
        have hs10 : (allN (clrB x0 i) (List.length x0)) = false := by exact allN_at (i := k) (by omega) (by exact clrB_f (by omega) (by omega))
        refine then_ret (in_ret (then_ret (in_ret (then_ret ?_))))
        have hs11 : (allN (redB x0) (List.length x0)) = false := by exact allN_at (i := i) (by omega) (by first | exact redB_f1 (by omega) | exact redB_f2 (by omega) | exact redB_f3 (by assumption))
        refine then_ret (in_ret (then_ret ?_))
        exact at_return (false, ()) [] h (by kernel_rfl) trivial (congrArg (fun z => (z, ())) (show (false) = isRed x0 from by first | rfl | (unfold isRed; rw [if_pos h1, if_neg (neT hs11)])))
       ·replace h9 : ((x0.getD k []).getD (((LA.leadS (x0.getD i []))).toNat) 0) = 0 := of_decide_eq_true (notF h9)
        refine wp_skip (in_normal (then_normal ?_))
        refine at_regq [{ nw := true }] { ts := [0, 2, 3, 4, 6, 12, 13, 14, 25, 26, 27, 28, 29, 31, 32, 33, 42, 43, 44, 45, 46], os := [] } [I64 (((k : Nat) : Int) + 1)] gamOK hT h (by kernel_rfl) ⟨⟨by first | omega | (simp only [lsA]; omega) | (simp <;> omega), by first | omega | (simp only [lsA]; omega) | (simp <;> omega)⟩, trivial⟩ fun a w h => ?_
        replace h := at_out (σ' := ⟨[(0, aF s27 x0), (2, aB false), (3, aI (prevL x0 i)), (4, aI ((i : Nat) : Int)), (6, aI (LA.leadS (x0.getD i []))), (12, aF s27 x0), (13, aI ((List.length x0 : Nat) : Int)), (14, aI ((i : Nat) : Int)), (25, aF (.int 3) (x0.getD i [])), (26, aI (LA.leadS (x0.getD i []))), (27, aR (.int 3) ((x0.getD i []).getD (((LA.leadS (x0.getD i []))).toNat) 0) 0), (28, aI ((x0.getD i []).getD (((LA.leadS (x0.getD i []))).toNat) 0)), (29, aB (!decide (((x0.getD i []).getD (((LA.leadS (x0.getD i []))).toNat) 0) = 1))), (31, aF s27 x0), (32, aI ((List.length x0 : Nat) : Int)), (33, aI (((k : Nat) : Int) + 1))], []⟩) { ts := [0, 2, 3, 4, 6, 12, 13, 14, 25, 26, 27, 28, 29, 31, 32, 33], os := [] } h (by kernel_rfl)
        exact ⟨k + 1, at_eq h (st_congr1 (fun (d0 : Int) => (⟨[(0, aF s27 x0), (2, aB false), (3, aI (prevL x0 i)), (4, aI ((i : Nat) : Int)), (6, aI (LA.leadS (x0.getD i []))), (12, aF s27 x0), (13, aI ((List.length x0 : Nat) : Int)), (14, aI ((i : Nat) : Int)), (25, aF (.int 3) (x0.getD i [])), (26, aI (LA.leadS (x0.getD i []))), (27, aR (.int 3) ((x0.getD i []).getD (((LA.leadS (x0.getD i []))).toNat) 0) 0), (28, aI ((x0.getD i []).getD (((LA.leadS (x0.getD i []))).toNat) 0)), (29, aB (!decide (((x0.getD i []).getD (((LA.leadS (x0.getD i []))).toNat) 0) = 1))), (31, aF s27 x0), (32, aI ((List.length x0 : Nat) : Int)), (33, aI d0)], []⟩ : St)) (show (((k : Nat) : Int) + 1 : Int) = (((k + 1) : Nat) : Int) from by first | with_reducible rfl | (omega) | rfl)), (by exact ⟨by omega, allN_succ hok1.2 (by exact clrB_t (by omega))⟩), (by omega)⟩
     ·replace h7 : ¬ (((k : Nat) : Int) < ((List.length x0 : Nat) : Int)) := of_decide_eq_false h7
      refine wp_exit (then_exit ?_)
      have hs12 : (allN (clrB x0 i) (List.length x0)) = true := by exact allN_eq (by omega) hok1.1 hok1.2
      refine then_exit (in_hit (then_normal ?_))
      refine at_regq [] { ts := [0, 2, 3, 12, 13, 14, 25, 26, 27, 28, 29], os := [] } [] gamOK hT h (by kernel_rfl) trivial fun a w h => in_normal (then_normal ?_)
      refine at_regq [{ nw := true }] { ts := [0, 2, 3, 12, 13, 14, 25, 26, 27, 28, 29], os := [] } [I64 (((i : Nat) : Int) + 1)] gamOK hT h (by kernel_rfl) ⟨⟨by first | omega | (simp only [lsA]; omega) | (simp <;> omega), by first | omega | (simp only [lsA]; omega) | (simp <;> omega)⟩, trivial⟩ fun a w h => ?_
      replace h := at_out (σ' := ⟨[(0, aF s27 x0), (2, aB false), (3, aI (LA.leadS (x0.getD i []))), (12, aF s27 x0), (13, aI ((List.length x0 : Nat) : Int)), (14, aI (((i : Nat) : Int) + 1))], []⟩) { ts := [0, 2, 3, 12, 13, 14], os := [] } h (by kernel_rfl)
      exact ⟨i + 1, at_eq h (st_congr2 (fun (d0 : Int) (d1 : Int) => (⟨[(0, aF s27 x0), (2, aB false), (3, aI d0), (12, aF s27 x0), (13, aI ((List.length x0 : Nat) : Int)), (14, aI d1)], []⟩ : St)) (show ((LA.leadS (x0.getD i [])) : Int) = (prevL x0 (i + 1)) from by first | with_reducible rfl | (rfl) | rfl) (show (((i : Nat) : Int) + 1 : Int) = (((i + 1) : Nat) : Int) from by first | with_reducible rfl | (omega) | rfl)), (by exact ⟨by omega, allN_succ hok0.2 (by exact redB_t (by omega) (by omega) (by assumption))⟩), (by omega)⟩
  ·replace h2 : ¬ (((i : Nat) : Int) < ((List.length x0 : Nat) : Int)) := of_decide_eq_false h2
   refine wp_exit (then_exit ?_)
   have hs13 : (allN (redB x0) (List.length x0)) = true := by exact allN_eq (by omega) hok0.1 hok0.2
   refine then_exit (in_hit (then_normal (wp_seq ?_)))
   refine at_regq [] { ts := [2], os := [] } [] gamOK hT h (by kernel_rfl) trivial fun a w h => then_normal (wp_ret ?_)
   exact at_return (true, ()) [] h (by kernel_rfl) trivial (congrArg (fun z => (z, ())) (show (true) = isRed x0 from by first | rfl | (unfold isRed; rw [if_pos h1, if_pos hs13])))

theorem fitV {n : Nat} {v : List Int} (h : LA.VokB n v) (hn : n ≤ 40) : Sh.fit s27 v := Sh.fit_len rfl (by have := h.1; omega)
theorem fitM {n : Nat} {m : List (List Int)} (h : ∀ r ∈ m, LA.VokB n r) (hn : n ≤ 40) (hm : List.length m ≤ 1073741824) : Sh.fit s24 m := ⟨hm, fun r hr => fitV (h r hr) hn⟩
theorem validV_of {n : Nat} {v : List Int} (h : LA.VokB n v) (hn : n ≤ 40) : validV v = true := by
 unfold validV
 rw [if_pos (show List.all v isEl = true from List.all_eq_true.2 fun x hx => inR_true (h.2 x hx))]
 exact decide_eq_true (by have := h.1; omega)
theorem addV_L {n : Nat} {a b : List Int} {k : Int} (ha : LA.VokB n a) (hb : LA.VokB n b) (hn : n ≤ 40) (hk : 0 ≤ k ∧ k ≤ 1018) : addV a b k = LA.addS a b k := addV_ok (validV_of ha hn) (validV_of hb hn) (by rw [ha.1, hb.1]) hk
theorem addOK_of {n : Nat} {a b : List Int} {k : Int} (ha : LA.VokB n a) (hb : LA.VokB n b) (hk : 0 ≤ k ∧ k ≤ 1019) : addOK a b k := ⟨by rw [ha.1, hb.1], hk, ha.rng, hb.rng⟩
def l7P (m : List (List Int)) (n : Int) : Prop := ∃ w : Nat, (∀ r ∈ m, LA.VokB w r) ∧ w ≤ 40 ∧ 0 ≤ n ∧ n ≤ (w : Int)
theorem l7_lead {w k p : Nat} {R : List (List Int)} (h : ∀ r ∈ R, LA.VokB w r) (hw : w ≤ 40) (hp : p < R.length) (hz : LA.ent R p k ≠ 0) : scaleV (R.getD p []) (invF ((R.getD p []).getD k 0)) = LA.gjLead R p k := by
 have hv := h _ (LA.getD_in hp)
 rw [scaleV_ok (validV_of hv hw) (invF_bd _), invF_el (hv.rng k)]; rfl
theorem ins_w {n : Nat} {r : List Int} (h : LA.VokB n r) (hn : n ≤ 40) (hl : 0 ≤ LA.leadS r) : scaleV r (invF (r.getD (LA.leadS r).toNat 0)) = LA.scaleS r (LA.invS (r.getD (LA.leadS r).toNat 0)) := by
 rw [scaleV_ok (validV_of h hn) (invF_bd _), invF_el (h.rng _)]
theorem l7_cols {m : List (List Int)} : (colsOf m).toNat = List.length (m.getD 0 []) := by
 unfold colsOf
 split
 ·rename_i h; rw [show m = [] from List.eq_nil_of_length_eq_zero (by omega)]; rfl
 ·exact Int.toNat_natCast _
theorem l7_w {m : List (List Int)} (h : validM m = true) : List.length (m.getD 0 []) ≤ 40 := by
 rcases Nat.eq_zero_or_pos m.length with h0 | h0
 ·rw [List.eq_nil_of_length_eq_zero h0]; decide
 ·exact (validV_t ((validM_t h).2 _ (getD_mem h0)).1).1
theorem l7P_of {m : List (List Int)} (h : validM m = true) : l7P m (colsOf m) := by
 have hc := l7_cols (m := m)
 refine ⟨List.length (m.getD 0 []), validM_ok h, l7_w h, ?_, ?_⟩
 ·unfold colsOf; split <;> omega
 ·rw [← hc]; have : 0 ≤ colsOf m := by unfold colsOf; split <;> omega
  omega
theorem isRed_iff {n : Nat} {m : List (List Int)} (h : ∀ r ∈ m, LA.VokB n r) (hn : n ≤ 40) : (validM m = true ∧ allN (redB m) (List.length m) = true) ↔ LA.RedL n m := by
 constructor
 ·rintro ⟨h1, h2⟩; exact (red_all h).1 h2
 ·intro hr
  refine ⟨?_, (red_all h).2 hr⟩
  unfold validM
  have hl := hr.len
  rw [if_pos (List.all_eq_true.2 fun r hm => by
   rw [Bool.and_eq_true]
   refine ⟨validV_of (h r hm) hn, decide_eq_true ?_⟩
   have h0 : 0 < m.length := List.length_pos_of_mem hm
   rw [(h r hm).1, (h _ (LA.getD_in h0)).1])]
  exact decide_eq_true (by omega)
end Go.Proofs.Ytpffjagdefkfkaa

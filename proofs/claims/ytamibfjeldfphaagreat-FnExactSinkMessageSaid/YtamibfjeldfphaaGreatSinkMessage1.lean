/- The walks of the functions that the law reaches: each summary holds. No condition. -/
import Derived.Test.YtamibfjeldfphaaGreatPZ
import Derived.Test.YtamibfjeldfphaaGreatLA
import Derived.Test.YtamibfjeldfphaaGreatProg
namespace Go.Proofs.YtamibfjeldfphaaGreat
open Go.RowKit
set_option linter.unusedVariables false
set_option linter.unusedSimpArgs false
abbrev s22 : Sh := .sl 22 (.int 3)
abbrev s28 : Sh := .sl 28 (.u8 5)
abbrev s55 : Sh := .sl 55 s22
abbrev s67 : Sh := .st 67 (.pair (.int 3) s55)
abbrev T67 : Type := (Int × (List (List Int)))
abbrev s69 : Sh := .st 69 (.pair (.int 3) (.pair (.int 3) (.pair (.int 3) s67)))
abbrev T69 : Type := (Int × (Int × (Int × T67)))
abbrev s31 : Sh := .sl 31 s69
abbrev s64 : Sh := .st 64 (.pair (.int 3) s55)
abbrev T64 : Type := (Int × (List (List Int)))
abbrev s32 : Sh := .sl 32 s64
abbrev s34 : Sh := .st 34 (.pair (.int 3) (.pair (.int 3) (.pair s22 (.pair s31 (.pair s32 (.int 3))))))
abbrev T34 : Type := (Int × (Int × ((List Int) × ((List T69) × ((List T64) × Int)))))
abbrev s57 : Sh := .st 57 (.pair (.int 3) s55)
abbrev T57 : Type := (Int × (List (List Int)))
abbrev s59 : Sh := .st 59 (.pair (.int 3) (.pair (.int 3) (.pair (.int 3) s57)))
abbrev T59 : Type := (Int × (Int × (Int × T57)))
abbrev s23 : Sh := .sl 23 s59
abbrev s62 : Sh := .st 62 (.pair (.int 3) s55)
abbrev T62 : Type := (Int × (List (List Int)))
abbrev s24 : Sh := .sl 24 s62
abbrev s26 : Sh := .st 26 (.pair (.int 3) (.pair (.int 3) (.pair s22 (.pair s23 (.pair s24 (.int 3))))))
abbrev T26 : Type := (Int × (Int × ((List Int) × ((List T59) × ((List T62) × Int)))))
def gam : Gam := [(22, (.int 3), 8), (28, (.u8 5), 1), (55, s22, 24), (31, s69, 56), (32, s64, 32)]
theorem gamOK : GamOK Tryz.prog gam := (.cons (Elem.of (.int .i64 0) Tryz.underlying22 (by kernel_rfl) rfl (by decide) (by decide)) (.cons (Elem.of (.int .u8 0) Tryz.underlying28 (by kernel_rfl) rfl (by decide) (by decide)) (.cons (Elem.of (.slice none 0 0) Tryz.underlying55 (by kernel_rfl) rfl (by decide) (by decide)) (.cons (Elem.of (.agg #[(.int .i64 0), (.int .i64 0), (.int .i64 0), (.int .i64 0), (.slice none 0 0)]) Tryz.underlying31 (by kernel_rfl) rfl (by decide) (by decide)) (.cons (Elem.of (.agg #[(.int .i64 0), (.slice none 0 0)]) Tryz.underlying32 (by kernel_rfl) rfl (by decide) (by decide)) .nil)))))
theorem mixed : Tryz.prog.follows .mixedOrders = true := by kernel_rfl
theorem lsA {α : Type} : (∀ xs ys : List α, (xs ++ ys).length = xs.length + ys.length) ∧ (∀ (x : α) (xs : List α), (x :: xs).length = xs.length + 1) ∧ (([] : List α).length = 0) ∧ (∀ (xs : List α) (i : Nat) (a : α), (xs.set i a).length = xs.length) ∧ (∀ (xs : List α) (n : Nat), (xs.take n).length = min n xs.length) ∧ (∀ (xs : List α) (n : Nat), (xs.drop n).length = xs.length - n) ∧ (∀ (n : Nat) (a : α), (List.replicate n a).length = n) := ⟨fun _ _ => List.length_append, fun _ _ => rfl, rfl, fun _ _ _ => List.length_set, fun _ _ => List.length_take, fun _ _ => List.length_drop, fun _ _ => List.length_replicate⟩
def inR (n lo hi : Int) : Bool := decide (lo ≤ n ∧ n ≤ hi)
theorem inR_t {n a b : Int} (h : inR n a b = true) : a ≤ n ∧ n ≤ b := of_decide_eq_true h
theorem inR_f {n a b : Int} (h : inR n a b = false) : n < a ∨ b < n := by have := of_decide_eq_false h; omega
theorem inR_true {n a b : Int} (h : a ≤ n ∧ n ≤ b) : inR n a b = true := decide_eq_true h
def lenOK {α : Type} (xs : List α) : Prop := xs.length ≤ 1073741824
def idL {α : Type} (xs : List α) : List α := xs
def u8L (xs : List Int) : Prop := ∀ e : Int, List.Mem e xs → (0 : Int) ≤ e ∧ e < (256 : Int)
theorem u8_range (k : Int) : (0 : Int) ≤ IntKind.u8.wrap k ∧ IntKind.u8.wrap k < (256 : Int) := by
 simp only [IntKind.wrap, IntKind.signed, IntKind.bits]; constructor <;> (simp; omega)
theorem getD_u8 {xs : List Int} (h : u8L xs) (i : Nat) : (0 : Int) ≤ xs.getD i 0 ∧ xs.getD i 0 < (256 : Int) := by
 by_cases l : i < xs.length
 ·rw [List.getD_eq_getElem?_getD, List.getElem?_eq_getElem l]; exact h _ (List.getElem_mem l)
 ·rw [List.getD_eq_getElem?_getD, List.getElem?_eq_none (by omega)]; constructor <;> decide
section
variable {α β : Type}
def noneTo (p : α → Bool) (xs : List α) (z : α) (i : Nat) : Prop := ∀ j, j < i → p (xs.getD j z) = false
def idxF (p : α → Bool) : List α → Int
 | [] => -1
 | x :: l => if p x = true then 0 else if idxF p l < 0 then -1 else idxF p l + 1
theorem noneTo_zero {p : α → Bool} {xs : List α} {z : α} : noneTo p xs z 0 := fun j h => by omega
theorem noneTo_succ {p : α → Bool} {xs : List α} {z : α} {i : Nat} (h : noneTo p xs z i) (k : p (xs.getD i z) = false) : noneTo p xs z (i + 1) := fun j hj => by
 by_cases e : j = i
 ·subst e; exact k
 ·exact h j (by omega)
theorem idxF_at {p : α → Bool} {z : α} : ∀ {xs : List α} {i : Nat}, i < xs.length → noneTo p xs z i → p (xs.getD i z) = true → idxF p xs = i
 | [], _, h, _, _ => by simp at h
 | x :: l, 0, _, _, k => by
  have k : p x = true := k
  simp [idxF, k]
 | x :: l, i + 1, h, hn, k => by
  have h0 : p x = false := hn 0 (by omega)
  have := idxF_at (xs := l) (i := i) (by simpa using h) (fun j hj => by have := hn (j + 1) (by omega); simpa using this) (by simpa using k)
  simp only [idxF, h0, this]
  rw [if_neg (by decide), if_neg (by omega)]
  omega
theorem idxF_none {p : α → Bool} {z : α} : ∀ {xs : List α} {i : Nat}, xs.length ≤ i → noneTo p xs z i → idxF p xs = -1
 | [], _, _, _ => rfl
 | x :: l, 0, h, _ => by simp at h
 | x :: l, i + 1, h, hn => by
  have h0 : p x = false := hn 0 (by omega)
  have := idxF_none (xs := l) (i := i) (by simpa using h) (fun j hj => by have := hn (j + 1) (by omega); simpa using this)
  simp [idxF, h0, this]
theorem idxF_pos {p : α → Bool} : ∀ {xs : List α}, 0 ≤ idxF p xs ↔ xs.any p = true
 | [] => by simp [idxF]
 | x :: l => by
  have := idxF_pos (xs := l) (p := p)
  simp only [idxF, List.any_cons, Bool.or_eq_true, ← this]
  by_cases hx : p x = true
  ·simp [hx]
  ·rw [if_neg hx]
   split
   ·rename_i h; constructor
    ·intro h'; omega
    ·rintro (h' | h')
     ·exact absurd h' hx
     ·omega
   ·rename_i h; constructor
    ·intro h'; right; omega
    ·intro _; omega
theorem idxF_any {p : α → Bool} {xs : List α} : decide (idxF p xs ≥ 0) = xs.any p := by
 rw [Bool.eq_iff_iff, decide_eq_true_iff]; exact idxF_pos
def allTo2 (e : α → β → Bool) (xs : List α) (ys : List β) (z : α) (y : β) (i : Nat) : Prop := ∀ j, j < i → e (xs.getD j z) (ys.getD j y) = true
def eqF (e : α → β → Bool) : List α → List β → Bool
 | [], [] => true
 | x :: l, y :: l' => e x y && eqF e l l'
 | _, _ => false
theorem allTo2_zero {e : α → β → Bool} {xs : List α} {ys : List β} {z : α} {y : β} : allTo2 e xs ys z y 0 := fun j h => by omega
theorem allTo2_succ {e : α → β → Bool} {xs : List α} {ys : List β} {z : α} {y : β} {i : Nat} (h : allTo2 e xs ys z y i) (k : e (xs.getD i z) (ys.getD i y) = true) : allTo2 e xs ys z y (i + 1) := fun j hj => by
 by_cases e : j = i
 ·subst e; exact k
 ·exact h j (by omega)
theorem eqF_len {e : α → β → Bool} : ∀ {xs : List α} {ys : List β}, xs.length ≠ ys.length → eqF e xs ys = false
 | [], [], h => absurd rfl h
 | [], _ :: _, _ => rfl
 | _ :: _, [], _ => rfl
 | _ :: l, _ :: l', h => by simp only [eqF]; rw [eqF_len (xs := l) (ys := l') (by simpa using h), Bool.and_false]
theorem eqF_at {e : α → β → Bool} {z : α} {y : β} : ∀ {xs : List α} {ys : List β} {i : Nat}, i < xs.length → i < ys.length → e (xs.getD i z) (ys.getD i y) = false → eqF e xs ys = false
 | x :: l, y' :: l', 0, _, _, h => by
  have h : e x y' = false := h
  simp [eqF, h]
 | x :: l, y' :: l', i + 1, h1, h2, h => by simp only [eqF]; rw [eqF_at (xs := l) (ys := l') (i := i) (by simpa using h1) (by simpa using h2) (by simpa using h), Bool.and_false]
 | [], _, _, h1, _, _ => by simp at h1
 | _ :: _, [], _, _, h2, _ => by simp at h2
theorem eqF_all {e : α → β → Bool} {z : α} {y : β} : ∀ {xs : List α} {ys : List β} {i : Nat}, xs.length = ys.length → xs.length ≤ i → allTo2 e xs ys z y i → eqF e xs ys = true
 | [], [], _, _, _, _ => rfl
 | [], _ :: _, _, h, _, _ => by simp at h
 | _ :: _, [], _, h, _, _ => by simp at h
 | x :: l, y' :: l', 0, _, h, _ => by simp at h
 | x :: l, y' :: l', i + 1, h, hi, ha => by
  have h0 : e x y' = true := ha 0 (by omega)
  simp only [eqF]
  rw [h0, eqF_all (xs := l) (ys := l') (i := i) (by simpa using h) (by simpa using hi) (fun j hj => by have := ha (j + 1) (by omega); simpa using this)]
  rfl
def allTo1 (p : α → Bool) (xs : List α) (z : α) (i : Nat) : Prop := ∀ j, j < i → p (xs.getD j z) = true
theorem allTo1_zero {p : α → Bool} {xs : List α} {z : α} : allTo1 p xs z 0 := fun j h => by omega
theorem allTo1_succ {p : α → Bool} {xs : List α} {z : α} {i : Nat} (h : allTo1 p xs z i) (k : p (xs.getD i z) = true) : allTo1 p xs z (i + 1) := fun j hj => by
 by_cases e : j = i
 ·subst e; exact k
 ·exact h j (by omega)
theorem all_at {p : α → Bool} {xs : List α} {z : α} {i : Nat} (h : i < xs.length) (k : p (xs.getD i z) = false) : xs.all p = false := by
 rw [Bool.eq_false_iff]; intro ha
 have := List.all_eq_true.1 ha _ (getD_mem (z := z) h)
 rw [k] at this; cases this
theorem all_of {p : α → Bool} {xs : List α} {z : α} {i : Nat} (h : xs.length ≤ i) (k : allTo1 p xs z i) : xs.all p = true := by
 rw [List.all_eq_true]; intro x hx
 obtain ⟨j, hj, rfl⟩ := List.getElem_of_mem hx
 have := k j (by omega)
 rwa [getD_of_lt hj] at this
def foldTo (f : β → α → β) (b : β) (xs : List α) (i : Nat) : β := (xs.take i).foldl f b
theorem foldTo_zero {f : β → α → β} {b : β} {xs : List α} : foldTo f b xs 0 = b := rfl
theorem foldTo_succ {f : β → α → β} {b : β} {xs : List α} {i : Nat} (z : α) (h : i < xs.length) : foldTo f b xs (i + 1) = f (foldTo f b xs i) (xs.getD i z) := by
 unfold foldTo; rw [take_snoc (z := z) h, List.foldl_append]; rfl
theorem foldTo_all {f : β → α → β} {b : β} {xs : List α} {i : Nat} (h : xs.length ≤ i) : foldTo f b xs i = xs.foldl f b := by unfold foldTo; rw [take_all h]
end
theorem beqT {a b : Bool} (h : a = b) : (a == b) = true := by subst h; simp
theorem notF' {b : Bool} (h : b = false) : (!b) = true := by rw [h]; rfl
theorem notT' {b : Bool} (h : b = true) : (!b) = false := by rw [h]; rfl
section
variable {α β : Type}
theorem any_at {p : α → Bool} {xs : List α} {z : α} {i : Nat} (h : i < xs.length) (k : p (xs.getD i z) = true) : xs.any p = true := List.any_eq_true.2 ⟨_, getD_mem h, k⟩
theorem any_of {p : α → Bool} {xs : List α} {z : α} {i : Nat} (h : xs.length ≤ i) (k : noneTo p xs z i) : xs.any p = false := by
 rw [Bool.eq_false_iff]; intro ha
 obtain ⟨x, hx, hp⟩ := List.any_eq_true.1 ha
 obtain ⟨j, hj, rfl⟩ := List.getElem_of_mem hx
 have := k j (by omega)
 rw [getD_of_lt hj, hp] at this; cases this
def allN (P : Nat → Bool) : Nat → Bool
 | 0 => true
 | n + 1 => allN P n && P n
theorem allN_succ {P : Nat → Bool} {i : Nat} (h : allN P i = true) (k : P i = true) : allN P (i + 1) = true := by simp [allN, h, k]
theorem allN_iff {P : Nat → Bool} : ∀ {n : Nat}, allN P n = true ↔ ∀ j, j < n → P j = true
 | 0 => by simp [allN]
 | n + 1 => by
  simp only [allN, Bool.and_eq_true, allN_iff (n := n)]
  constructor
  ·rintro ⟨h1, h2⟩ j hj
   by_cases e : j = n
   ·rw [e]; exact h2
   ·exact h1 j (by omega)
  ·intro h; exact ⟨fun j hj => h j (by omega), h n (by omega)⟩
theorem allN_eq {P : Nat → Bool} {i n : Nat} (h : n ≤ i) (h' : i ≤ n) (k : allN P i = true) : allN P n = true := by rw [show n = i by omega]; exact k
theorem allN_at {P : Nat → Bool} {i n : Nat} (h : i < n) (k : P i = false) : allN P n = false := by
 rw [Bool.eq_false_iff]; intro ha
 rw [allN_iff.1 ha i h] at k; cases k
theorem map_snoc {f : α → β} {xs : List α} {i : Nat} {z : α} (h : i < xs.length) : (xs.take (i + 1)).map f = (xs.take i).map f ++ [f (xs.getD i z)] := by rw [take_snoc (z := z) h, List.map_append]; rfl
theorem filter_snoc_t {p : α → Bool} {xs : List α} {i : Nat} {z : α} (h : i < xs.length) (k : p (xs.getD i z) = true) : (xs.take (i + 1)).filter p = (xs.take i).filter p ++ [xs.getD i z] := by rw [take_snoc (z := z) h, List.filter_append, List.filter_cons_of_pos k]; rfl
theorem filter_snoc_f {p : α → Bool} {xs : List α} {i : Nat} {z : α} (h : i < xs.length) (k : p (xs.getD i z) = false) : (xs.take (i + 1)).filter p = (xs.take i).filter p := by rw [take_snoc (z := z) h, List.filter_append, List.filter_cons_of_neg (by rw [k]; decide)]; simp
theorem len_filter_take {p : α → Bool} {xs : List α} (i : Nat) : ((xs.take i).filter p).length ≤ xs.length := Nat.le_trans (List.length_filter_le _ _) (by simp; omega)
theorem len_take_le {xs : List α} (i : Nat) : (xs.take i).length ≤ xs.length := by simp; omega
end
theorem any_not {α : Type} (p : α → Bool) (xs : List α) : (xs.any fun e => !p e) = !(xs.all p) := by
 induction xs with
 | nil => rfl
 | cons x l ih => rw [List.any_cons, List.all_cons, ih, Bool.not_and]
def S_slices_Clone_S_int_int_ : Sum := { fid := 81, dom := [s22], cod := [s22], dp := true, fz := false, pre := fun x => (lenOK (α := Int)) x.1, g := fun x => (((idL (α := Int)) x.1), ()) }
def S_slices_Clone_S_int_int__tab : List (Nat × Sum) := []
theorem S_slices_Clone_S_int_int__ok : FnOK Tryz.prog 81 S_slices_Clone_S_int_int_ := by
 refine at_enter 8 (fun x => ⟨[(0, aF (.int 3) x.1)], []⟩) Tryz.func81 rfl (by kernel_rfl) (fun x => rfl) ?_
 rintro w0 Z0 ⟨x0, u⟩ a w
 revert x0
 intro (x0 : (List Int)) hpre hlens h
 replace hpre : (lenOK (α := Int)) x0 := hpre
 have hl1 : List.length x0 ≤ 9223372036854775807 := hlens.1.1
 have hT : TabOK Tryz.prog S_slices_Clone_S_int_int__tab := .nil
 have hp : List.length x0 ≤ 1073741824 := hpre
 refine wp_seq ?_
 refine at_regq [] { ts := [0, 2], os := [] } [] gamOK hT h (by kernel_rfl) trivial fun a w h => then_normal (wp_seq (wp_seq ?_))
 refine at_regq [] { ts := [0, 2, 4], os := [] } [] gamOK hT h (by kernel_rfl) trivial fun a w h => then_normal ?_
 refine at_nil (List.length x0) h (by kernel_rfl) (fun h1 => ?_) ?_
 ·refine wp_seq ?_
  refine at_regq [] { ts := [0, 2], os := [] } [] gamOK hT h (by kernel_rfl) trivial fun a w h => then_normal (wp_ret (then_ret ?_))
  exact at_return (([] : List Int), ()) [] h (by kernel_rfl) trivial (congrArg (fun z => (z, ())) (show (([] : List Int)) = (idL (α := Int)) x0 from by (show [] = x0; exact (List.eq_nil_of_length_eq_zero h1).symm)))
 ·refine wp_skip (then_normal (wp_seq ?_))
  refine at_regq [{ ids := [1] }, {}, { ids := [2] }] { ts := [2], os := [2] } [(List.length ([] : List Int) + List.length x0) * 8 ≤ 140737488355328] gamOK hT h (by kernel_rfl) ⟨(by first | omega | (simp only [lsA]; omega) | (simp <;> omega)), trivial⟩ fun a w h => then_normal (wp_ret ?_)
  exact at_return ((([] : List Int) ++ x0), ()) [] h (by kernel_rfl) trivial (congrArg (fun z => (z, ())) (show ((([] : List Int) ++ x0)) = (idL (α := Int)) x0 from by (show [] ++ x0 = x0; rfl)))

def S_slices_Clone_S_byte_byte_ : Sum := { fid := 90, dom := [s28], cod := [s28], dp := true, fz := false, pre := fun x => (lenOK (α := Int)) x.1, g := fun x => (((idL (α := Int)) x.1), ()) }
def S_slices_Clone_S_byte_byte__tab : List (Nat × Sum) := []
theorem S_slices_Clone_S_byte_byte__ok : FnOK Tryz.prog 90 S_slices_Clone_S_byte_byte_ := by
 refine at_enter 8 (fun x => ⟨[(0, aF (.u8 5) x.1)], []⟩) Tryz.func90 rfl (by kernel_rfl) (fun x => rfl) ?_
 rintro w0 Z0 ⟨x0, u⟩ a w
 revert x0
 intro (x0 : (List Int)) hpre hlens h
 replace hpre : (lenOK (α := Int)) x0 := hpre
 have hl1 : List.length x0 ≤ 9223372036854775807 := hlens.1.1
 have hu0 : u8L x0 := hlens.1.2
 have hT : TabOK Tryz.prog S_slices_Clone_S_byte_byte__tab := .nil
 have hp : List.length x0 ≤ 1073741824 := hpre
 refine wp_seq ?_
 refine at_regq [] { ts := [0, 2], os := [] } [] gamOK hT h (by kernel_rfl) trivial fun a w h => then_normal (wp_seq (wp_seq ?_))
 refine at_regq [] { ts := [0, 2, 4], os := [] } [] gamOK hT h (by kernel_rfl) trivial fun a w h => then_normal ?_
 refine at_nil (List.length x0) h (by kernel_rfl) (fun h1 => ?_) ?_
 ·refine wp_seq ?_
  refine at_regq [] { ts := [0, 2], os := [] } [] gamOK hT h (by kernel_rfl) trivial fun a w h => then_normal (wp_ret (then_ret ?_))
  exact at_return (([] : List Int), ()) [] h (by kernel_rfl) trivial (congrArg (fun z => (z, ())) (show (([] : List Int)) = (idL (α := Int)) x0 from by (show [] = x0; exact (List.eq_nil_of_length_eq_zero h1).symm)))
 ·refine wp_skip (then_normal (wp_seq ?_))
  refine at_regq [{ ids := [1] }, {}, { ids := [2] }] { ts := [2], os := [2] } [(List.length ([] : List Int) + List.length x0) * 1 ≤ 140737488355328] gamOK hT h (by kernel_rfl) ⟨(by first | omega | (simp only [lsA]; omega) | (simp <;> omega)), trivial⟩ fun a w h => then_normal (wp_ret ?_)
  exact at_return ((([] : List Int) ++ x0), ()) [] h (by kernel_rfl) trivial (congrArg (fun z => (z, ())) (show ((([] : List Int) ++ x0)) = (idL (α := Int)) x0 from by (show [] ++ x0 = x0; rfl)))

def S_slices_Equal_S_int_int_ : Sum := { fid := 93, dom := [s22, s22], cod := [(.bool 4)], dp := true, fz := false, pre := fun x => True, g := fun x => (((Sh.eqB s22) x.1 x.2.1), ()) }
def S_slices_Equal_S_int_int__tab : List (Nat × Sum) := []
theorem S_slices_Equal_S_int_int__ok : FnOK Tryz.prog 93 S_slices_Equal_S_int_int_ := by
 refine at_enter 26 (fun x => ⟨[(0, aF (.int 3) x.1), (1, aF (.int 3) x.2.1)], []⟩) Tryz.func93 rfl (by kernel_rfl) (fun x => rfl) ?_
 rintro w0 Z0 ⟨x0, x1, u⟩ a w
 revert x0 x1
 intro (x0 : (List Int)) (x1 : (List Int)) hpre hlens h
 have hl1 : List.length x0 ≤ 9223372036854775807 := hlens.1.1
 have hl2 : List.length x1 ≤ 9223372036854775807 := hlens.2.1.1
 have hT : TabOK Tryz.prog S_slices_Equal_S_int_int__tab := .nil
 refine wp_seq ?_
 refine at_regq [] { ts := [0, 1, 4], os := [] } [] gamOK hT h (by kernel_rfl) trivial fun a w h => then_normal (wp_seq (wp_seq ?_))
 refine at_regq [] { ts := [0, 1, 4, 10], os := [] } [] gamOK hT h (by kernel_rfl) trivial fun a w h => then_normal ?_
 refine at_test (!decide (((List.length x0 : Nat) : Int) = ((List.length x1 : Nat) : Int))) h (by kernel_rfl) (fun h1 => ?_) (fun h1 => ?_)
 ·replace h1 : ¬ (((List.length x0 : Nat) : Int) = ((List.length x1 : Nat) : Int)) := of_decide_eq_false (notT h1)
  refine wp_seq ?_
  refine at_regq [] { ts := [0, 1, 4], os := [] } [] gamOK hT h (by kernel_rfl) trivial fun a w h => then_normal (wp_ret (then_ret ?_))
  exact at_return (false, ()) [] h (by kernel_rfl) trivial (congrArg (fun z => (z, ())) (show (false) = (Sh.eqB s22) x0 x1 from by exact (Sh.eqB_ne (fun e => h1 (by rw [e]))).symm))
 ·replace h1 : ((List.length x0 : Nat) : Int) = ((List.length x1 : Nat) : Int) := of_decide_eq_true (notF h1)
  refine wp_skip (then_normal (wp_seq (wp_seq ?_)))
  refine at_regq [] { ts := [0, 1, 4, 12, 13], os := [] } [] gamOK hT h (by kernel_rfl) trivial fun a w h => then_normal (wp_block ?_)
  replace h := at_out (σ' := ⟨[(0, aF (.int 3) x0), (1, aF (.int 3) x1), (4, aB false), (12, aI ((List.length x0 : Nat) : Int)), (13, aI 0)], []⟩) { ts := [0, 1, 4, 12, 13], os := [] } h (by kernel_rfl)
  refine at_loop (fun i : Nat => (⟨[(0, aF (.int 3) x0), (1, aF (.int 3) x1), (4, aB false), (12, aI ((List.length x0 : Nat) : Int)), (13, aI ((i : Nat) : Int))], []⟩ : St)) (fun i => (i ≤ List.length x0 ∧ x0.take i = x1.take i)) (fun i => List.length x0 - i) (0) h (st_congr1 (fun (d0 : Int) => (⟨[(0, aF (.int 3) x0), (1, aF (.int 3) x1), (4, aB false), (12, aI ((List.length x0 : Nat) : Int)), (13, aI d0)], []⟩ : St)) (show (0 : Int) = (((0) : Nat) : Int) from by first | with_reducible rfl | (rfl) | rfl)) (by exact ⟨Nat.zero_le _, rfl⟩) ?_
  intro i a w hok0 h
  refine wp_seq ?_
  refine at_regq [] { ts := [0, 1, 4, 12, 13, 14], os := [] } [] gamOK hT h (by kernel_rfl) trivial fun a w h => then_normal (wp_seq ?_)
  refine at_test (decide (((i : Nat) : Int) < ((List.length x0 : Nat) : Int))) h (by kernel_rfl) (fun h2 => ?_) (fun h2 => ?_)
  ·replace h2 : ((i : Nat) : Int) < ((List.length x0 : Nat) : Int) := of_decide_eq_true h2
   refine wp_skip (then_normal (wp_seq (wp_block (wp_seq ?_))))
   refine at_regq [] { ts := [0, 1, 4, 5, 12, 13], os := [] } [] gamOK hT h (by kernel_rfl) trivial fun a w h => then_normal (wp_seq ?_)
   refine at_anyq [{}, {}, {}, {}, {}, {}, {}, {}, {}] { ts := [0, 1, 4, 12, 13, 24], os := [] } [(0 : Int) ≤ ((i : Nat) : Int) ∧ ((i : Nat) : Int) < ((List.length x0 : Nat) : Int), (0 : Int) ≤ ((i : Nat) : Int) ∧ ((i : Nat) : Int) < ((List.length x1 : Nat) : Int)] gamOK hT mixed h (by kernel_rfl) ⟨(by refine ⟨?_, ?_⟩ <;> (first | omega | (simp only [lsA]; omega) | (simp <;> omega))), (by refine ⟨?_, ?_⟩ <;> (first | omega | (simp only [lsA]; omega) | (simp <;> omega))), trivial⟩ fun a w h => then_normal ?_
   refine at_test (!decide ((x0.getD i 0) = (x1.getD i 0))) h (by kernel_rfl) (fun h3 => ?_) (fun h3 => ?_)
   ·replace h3 : ¬ ((x0.getD i 0) = (x1.getD i 0)) := of_decide_eq_false (notT h3)
    refine wp_seq ?_
    refine at_regq [] { ts := [0, 1, 4, 12, 13], os := [] } [] gamOK hT h (by kernel_rfl) trivial fun a w h => then_normal (wp_ret (in_ret (then_ret (then_ret (in_ret (then_ret ?_))))))
    exact at_return (false, ()) [] h (by kernel_rfl) trivial (congrArg (fun z => (z, ())) (show (false) = (Sh.eqB s22) x0 x1 from by exact (Sh.eqB_ne (s := s22) (fun e => h3 (by rw [e]))).symm))
   ·replace h3 : (x0.getD i 0) = (x1.getD i 0) := of_decide_eq_true (notF h3)
    refine wp_skip (in_normal (then_normal ?_))
    refine at_regq [{ nw := true }] { ts := [0, 1, 4, 12, 13], os := [] } [I64 (((i : Nat) : Int) + 1)] gamOK hT h (by kernel_rfl) ⟨⟨by first | omega | (simp only [lsA]; omega) | (simp <;> omega), by first | omega | (simp only [lsA]; omega) | (simp <;> omega)⟩, trivial⟩ fun a w h => ?_
    replace h := at_out (σ' := ⟨[(0, aF (.int 3) x0), (1, aF (.int 3) x1), (4, aB false), (12, aI ((List.length x0 : Nat) : Int)), (13, aI (((i : Nat) : Int) + 1))], []⟩) { ts := [0, 1, 4, 12, 13], os := [] } h (by kernel_rfl)
    exact ⟨i + 1, at_eq h (st_congr1 (fun (d0 : Int) => (⟨[(0, aF (.int 3) x0), (1, aF (.int 3) x1), (4, aB false), (12, aI ((List.length x0 : Nat) : Int)), (13, aI d0)], []⟩ : St)) (show (((i : Nat) : Int) + 1 : Int) = (((i + 1) : Nat) : Int) from by first | with_reducible rfl | (omega) | rfl)), (by exact ⟨by omega, eqTo_step (z := 0) (by omega) (by omega) hok0.2 h3⟩), (by omega)⟩
  ·replace h2 : ¬ (((i : Nat) : Int) < ((List.length x0 : Nat) : Int)) := of_decide_eq_false h2
   refine wp_exit (then_exit (then_exit (in_hit (then_normal (wp_seq ?_)))))
   refine at_regq [] { ts := [4], os := [] } [] gamOK hT h (by kernel_rfl) trivial fun a w h => then_normal (wp_ret ?_)
   exact at_return (true, ()) [] h (by kernel_rfl) trivial (congrArg (fun z => (z, ())) (show (true) = (Sh.eqB s22) x0 x1 from by (have e := hok0.2; rw [take_all (by omega), take_all (by omega)] at e; exact ((Sh.eqB_iff s22).2 e).symm)))

def S_impl_InRange : Sum := { fid := 59, dom := [(.int 3), (.int 3), (.int 3)], cod := [(.bool 4)], dp := true, fz := false, pre := fun x => True, g := fun x => ((inR x.1 x.2.1 x.2.2.1), ()) }
def S_impl_InRange_tab : List (Nat × Sum) := []
theorem S_impl_InRange_ok : FnOK Tryz.prog 59 S_impl_InRange := by
 refine at_enter 15 (fun x => ⟨[(0, aI x.1), (1, aI x.2.1), (2, aI x.2.2.1)], []⟩) Tryz.func59 rfl (by kernel_rfl) (fun x => rfl) ?_
 rintro w0 Z0 ⟨x0, x1, x2, u⟩ a w
 revert x0 x1 x2
 intro (x0 : Int) (x1 : Int) (x2 : Int) hpre hlens h
 have hT : TabOK Tryz.prog S_impl_InRange_tab := .nil
 refine wp_seq ?_
 refine at_regq [] { ts := [0, 1, 2, 6], os := [] } [] gamOK hT h (by kernel_rfl) trivial fun a w h => then_normal (wp_seq ?_)
 by_cases h1 : x1 ≤ x0
 ·refine at_regq [{}, {}, { hint := some (aB true) }] { ts := [6], os := [] } [(AV.p (.c (.v (.bool (decide (x1 ≤ x0))))) = AV.p (.c (.v (.bool true))))] gamOK hT h (by kernel_rfl) ⟨hint_bool (decide_eq_true h1), trivial⟩ fun a w h => then_normal (wp_ret ?_)
  exact at_return (decide (x0 ≤ x2), ()) [] h (by kernel_rfl) trivial (congrArg (fun z => (z, ())) (show (decide (x0 ≤ x2)) = inR x0 x1 x2 from by (unfold inR; simp [*]; done)))
 ·refine at_regq [{}, {}, { hint := some (aB false) }] { ts := [6], os := [] } [(AV.p (.c (.v (.bool (decide (x1 ≤ x0))))) = AV.p (.c (.v (.bool false))))] gamOK hT h (by kernel_rfl) ⟨hint_bool (decide_eq_false h1), trivial⟩ fun a w h => then_normal (wp_ret ?_)
  exact at_return (false, ()) [] h (by kernel_rfl) trivial (congrArg (fun z => (z, ())) (show (false) = inR x0 x1 x2 from by (unfold inR; simp [*]; done)))

def S_spec_l1In : Sum := { fid := 45, dom := [(.int 3), (.int 3), (.int 3)], cod := [(.bool 4)], dp := true, fz := false, pre := fun x => True, g := fun x => ((inR x.1 x.2.1 x.2.2.1), ()) }
def S_spec_l1In_tab : List (Nat × Sum) := []
theorem S_spec_l1In_ok : FnOK Tryz.prog 45 S_spec_l1In := by
 refine at_enter 15 (fun x => ⟨[(0, aI x.1), (1, aI x.2.1), (2, aI x.2.2.1)], []⟩) Tryz.func45 rfl (by kernel_rfl) (fun x => rfl) ?_
 rintro w0 Z0 ⟨x0, x1, x2, u⟩ a w
 revert x0 x1 x2
 intro (x0 : Int) (x1 : Int) (x2 : Int) hpre hlens h
 have hT : TabOK Tryz.prog S_spec_l1In_tab := .nil
 refine wp_seq ?_
 refine at_regq [] { ts := [0, 1, 2, 6], os := [] } [] gamOK hT h (by kernel_rfl) trivial fun a w h => then_normal (wp_seq ?_)
 by_cases h1 : x0 ≥ x1
 ·refine at_regq [{}, {}, { hint := some (aB true) }] { ts := [6], os := [] } [(AV.p (.c (.v (.bool (decide (x0 ≥ x1))))) = AV.p (.c (.v (.bool true))))] gamOK hT h (by kernel_rfl) ⟨hint_bool (decide_eq_true h1), trivial⟩ fun a w h => then_normal (wp_ret ?_)
  exact at_return (decide (x0 ≤ x2), ()) [] h (by kernel_rfl) trivial (congrArg (fun z => (z, ())) (show (decide (x0 ≤ x2)) = inR x0 x1 x2 from by (unfold inR; first | (simp only [ge_iff_le] at *; simp [*]; done) | (rw [decide_eq_false]; omega))))
 ·refine at_regq [{}, {}, { hint := some (aB false) }] { ts := [6], os := [] } [(AV.p (.c (.v (.bool (decide (x0 ≥ x1))))) = AV.p (.c (.v (.bool false))))] gamOK hT h (by kernel_rfl) ⟨hint_bool (decide_eq_false h1), trivial⟩ fun a w h => then_normal (wp_ret ?_)
  exact at_return (false, ()) [] h (by kernel_rfl) trivial (congrArg (fun z => (z, ())) (show (false) = inR x0 x1 x2 from by (unfold inR; first | (simp only [ge_iff_le] at *; simp [*]; done) | (rw [decide_eq_false]; omega))))

def isEl (x0 : Int) : Bool := (inR x0 0 1018)
def S_impl_IsElement : Sum := { fid := 88, dom := [(.int 3)], cod := [(.bool 4)], dp := true, fz := false, pre := fun x => True, g := fun x => ((isEl x.1), ()) }
def S_impl_IsElement_tab : List (Nat × Sum) := [(59, S_impl_InRange)]
theorem S_impl_IsElement_ok : FnOK Tryz.prog 88 S_impl_IsElement := by
 refine at_enter 5 (fun x => ⟨[(0, aI x.1)], []⟩) Tryz.func88 rfl (by kernel_rfl) (fun x => rfl) ?_
 rintro w0 Z0 ⟨x0, u⟩ a w
 revert x0
 intro (x0 : Int) hpre hlens h
 have hT : TabOK Tryz.prog S_impl_IsElement_tab := (.cons S_impl_InRange_ok .nil)
 refine wp_seq ?_
 refine at_regq [] { ts := [0, 2], os := [] } [] gamOK hT h (by kernel_rfl) trivial fun a w h => then_normal (wp_seq ?_)
 refine at_regq [] { ts := [2], os := [] } [True] gamOK hT h (by kernel_rfl) ⟨trivial, trivial⟩ fun a w h => then_normal (wp_ret ?_)
 exact at_return ((inR x0 0 1018), ()) [] h (by kernel_rfl) trivial (congrArg (fun z => (z, ())) (show ((inR x0 0 1018)) = isEl x0 from by rfl))
theorem isEl_t {x : Int} (h : isEl x = true) : 0 ≤ x ∧ x ≤ 1018 := inR_t h

def S_spec_IsElement : Sum := { fid := 96, dom := [(.int 3)], cod := [(.bool 4)], dp := true, fz := false, pre := fun x => True, g := fun x => ((isEl x.1), ()) }
def S_spec_IsElement_tab : List (Nat × Sum) := [(45, S_spec_l1In)]
theorem S_spec_IsElement_ok : FnOK Tryz.prog 96 S_spec_IsElement := by
 refine at_enter 5 (fun x => ⟨[(0, aI x.1)], []⟩) Tryz.func96 rfl (by kernel_rfl) (fun x => rfl) ?_
 rintro w0 Z0 ⟨x0, u⟩ a w
 revert x0
 intro (x0 : Int) hpre hlens h
 have hT : TabOK Tryz.prog S_spec_IsElement_tab := (.cons S_spec_l1In_ok .nil)
 refine wp_seq ?_
 refine at_regq [] { ts := [0, 2], os := [] } [] gamOK hT h (by kernel_rfl) trivial fun a w h => then_normal (wp_seq ?_)
 refine at_regq [] { ts := [2], os := [] } [True] gamOK hT h (by kernel_rfl) ⟨trivial, trivial⟩ fun a w h => then_normal (wp_ret ?_)
 exact at_return ((inR x0 0 1018), ()) [] h (by kernel_rfl) trivial (congrArg (fun z => (z, ())) (show ((inR x0 0 1018)) = isEl x0 from by first | rfl | (unfold isEl; rfl; done) | (unfold isEl; simp_all)))

def S_laws_eqIntS : Sum := { fid := 23, dom := [s22, s22], cod := [(.bool 4)], dp := true, fz := false, pre := fun x => True, g := fun x => (((Sh.eqB s22) x.1 x.2.1), ()) }
def S_laws_eqIntS_tab : List (Nat × Sum) := []
theorem S_laws_eqIntS_ok : FnOK Tryz.prog 23 S_laws_eqIntS := by
 refine at_enter 26 (fun x => ⟨[(0, aF (.int 3) x.1), (1, aF (.int 3) x.2.1)], []⟩) Tryz.func23 rfl (by kernel_rfl) (fun x => rfl) ?_
 rintro w0 Z0 ⟨x0, x1, u⟩ a w
 revert x0 x1
 intro (x0 : (List Int)) (x1 : (List Int)) hpre hlens h
 have hl1 : List.length x0 ≤ 9223372036854775807 := hlens.1.1
 have hl2 : List.length x1 ≤ 9223372036854775807 := hlens.2.1.1
 have hT : TabOK Tryz.prog S_laws_eqIntS_tab := .nil
 refine wp_seq ?_
 refine at_regq [] { ts := [0, 1, 4], os := [] } [] gamOK hT h (by kernel_rfl) trivial fun a w h => then_normal (wp_seq (wp_seq ?_))
 refine at_regq [] { ts := [0, 1, 4, 10], os := [] } [] gamOK hT h (by kernel_rfl) trivial fun a w h => then_normal ?_
 refine at_test (!decide (((List.length x0 : Nat) : Int) = ((List.length x1 : Nat) : Int))) h (by kernel_rfl) (fun h1 => ?_) (fun h1 => ?_)
 ·replace h1 : ¬ (((List.length x0 : Nat) : Int) = ((List.length x1 : Nat) : Int)) := of_decide_eq_false (notT h1)
  refine wp_seq ?_
  refine at_regq [] { ts := [0, 1, 4], os := [] } [] gamOK hT h (by kernel_rfl) trivial fun a w h => then_normal (wp_ret (then_ret ?_))
  exact at_return (false, ()) [] h (by kernel_rfl) trivial (congrArg (fun z => (z, ())) (show (false) = (Sh.eqB s22) x0 x1 from by exact (Sh.eqB_ne (fun e => h1 (by rw [e]))).symm))
 ·replace h1 : ((List.length x0 : Nat) : Int) = ((List.length x1 : Nat) : Int) := of_decide_eq_true (notF h1)
  refine wp_skip (then_normal (wp_seq (wp_seq ?_)))
  refine at_regq [] { ts := [0, 1, 4, 5], os := [] } [] gamOK hT h (by kernel_rfl) trivial fun a w h => then_normal (wp_block ?_)
  replace h := at_out (σ' := ⟨[(0, aF (.int 3) x0), (1, aF (.int 3) x1), (4, aB false), (5, aI 0)], []⟩) { ts := [0, 1, 4, 5], os := [] } h (by kernel_rfl)
  refine at_loop (fun i : Nat => (⟨[(0, aF (.int 3) x0), (1, aF (.int 3) x1), (4, aB false), (5, aI ((i : Nat) : Int))], []⟩ : St)) (fun i => (i ≤ List.length x0 ∧ x0.take i = x1.take i)) (fun i => List.length x0 - i) (0) h (st_congr1 (fun (d0 : Int) => (⟨[(0, aF (.int 3) x0), (1, aF (.int 3) x1), (4, aB false), (5, aI d0)], []⟩ : St)) (show (0 : Int) = (((0) : Nat) : Int) from by first | with_reducible rfl | (rfl) | rfl)) (by exact ⟨Nat.zero_le _, rfl⟩) ?_
  intro i a w hok0 h
  refine wp_seq (wp_seq ?_)
  refine at_regq [] { ts := [0, 1, 4, 5, 14], os := [] } [] gamOK hT h (by kernel_rfl) trivial fun a w h => then_normal ?_
  refine at_test (decide (((i : Nat) : Int) < ((List.length x0 : Nat) : Int))) h (by kernel_rfl) (fun h2 => ?_) (fun h2 => ?_)
  ·replace h2 : ((i : Nat) : Int) < ((List.length x0 : Nat) : Int) := of_decide_eq_true h2
   refine wp_skip (then_normal (wp_seq (wp_block (wp_seq ?_))))
   refine at_anyq [{}, {}, {}, {}, {}, {}, {}, {}, {}] { ts := [0, 1, 4, 5, 25], os := [] } [(0 : Int) ≤ ((i : Nat) : Int) ∧ ((i : Nat) : Int) < ((List.length x0 : Nat) : Int), (0 : Int) ≤ ((i : Nat) : Int) ∧ ((i : Nat) : Int) < ((List.length x1 : Nat) : Int)] gamOK hT mixed h (by kernel_rfl) ⟨(by refine ⟨?_, ?_⟩ <;> (first | omega | (simp only [lsA]; omega) | (simp <;> omega))), (by refine ⟨?_, ?_⟩ <;> (first | omega | (simp only [lsA]; omega) | (simp <;> omega))), trivial⟩ fun a w h => then_normal ?_
   refine at_test (!decide ((x0.getD i 0) = (x1.getD i 0))) h (by kernel_rfl) (fun h3 => ?_) (fun h3 => ?_)
   ·replace h3 : ¬ ((x0.getD i 0) = (x1.getD i 0)) := of_decide_eq_false (notT h3)
    refine wp_seq ?_
    refine at_regq [] { ts := [0, 1, 4, 5], os := [] } [] gamOK hT h (by kernel_rfl) trivial fun a w h => then_normal (wp_ret (in_ret (then_ret (then_ret (in_ret (then_ret ?_))))))
    exact at_return (false, ()) [] h (by kernel_rfl) trivial (congrArg (fun z => (z, ())) (show (false) = (Sh.eqB s22) x0 x1 from by exact (Sh.eqB_ne (s := s22) (fun e => h3 (by rw [e]))).symm))
   ·replace h3 : (x0.getD i 0) = (x1.getD i 0) := of_decide_eq_true (notF h3)
    refine wp_skip (in_normal (then_normal ?_))
    refine at_regq [{}, { nw := true }] { ts := [0, 1, 4, 5], os := [] } [I64 (((i : Nat) : Int) + 1)] gamOK hT h (by kernel_rfl) ⟨⟨by first | omega | (simp only [lsA]; omega) | (simp <;> omega), by first | omega | (simp only [lsA]; omega) | (simp <;> omega)⟩, trivial⟩ fun a w h => ?_
    replace h := at_out (σ' := ⟨[(0, aF (.int 3) x0), (1, aF (.int 3) x1), (4, aB false), (5, aI (((i : Nat) : Int) + 1))], []⟩) { ts := [0, 1, 4, 5], os := [] } h (by kernel_rfl)
    exact ⟨i + 1, at_eq h (st_congr1 (fun (d0 : Int) => (⟨[(0, aF (.int 3) x0), (1, aF (.int 3) x1), (4, aB false), (5, aI d0)], []⟩ : St)) (show (((i : Nat) : Int) + 1 : Int) = (((i + 1) : Nat) : Int) from by first | with_reducible rfl | (omega) | rfl)), (by exact ⟨by omega, eqTo_step (z := 0) (by omega) (by omega) hok0.2 h3⟩), (by omega)⟩
  ·replace h2 : ¬ (((i : Nat) : Int) < ((List.length x0 : Nat) : Int)) := of_decide_eq_false h2
   refine wp_exit (then_exit (then_exit (in_hit (then_normal (wp_seq ?_)))))
   refine at_regq [] { ts := [4], os := [] } [] gamOK hT h (by kernel_rfl) trivial fun a w h => then_normal (wp_ret ?_)
   exact at_return (true, ()) [] h (by kernel_rfl) trivial (congrArg (fun z => (z, ())) (show (true) = (Sh.eqB s22) x0 x1 from by (have e := hok0.2; rw [take_all (by omega), take_all (by omega)] at e; exact ((Sh.eqB_iff s22).2 e).symm)))

def S_laws_eqIntSS : Sum := { fid := 71, dom := [s55, s55], cod := [(.bool 4)], dp := true, fz := false, pre := fun x => True, g := fun x => (((Sh.eqB s55) x.1 x.2.1), ()) }
def S_laws_eqIntSS_tab : List (Nat × Sum) := [(23, S_laws_eqIntS)]
theorem S_laws_eqIntSS_ok : FnOK Tryz.prog 71 S_laws_eqIntSS := by
 refine at_enter 27 (fun x => ⟨[(0, aF s22 x.1), (1, aF s22 x.2.1)], []⟩) Tryz.func71 rfl (by kernel_rfl) (fun x => rfl) ?_
 rintro w0 Z0 ⟨x0, x1, u⟩ a w
 revert x0 x1
 intro (x0 : (List (List Int))) (x1 : (List (List Int))) hpre hlens h
 have hl1 : List.length x0 ≤ 9223372036854775807 := hlens.1.1
 have hl2 : List.length x1 ≤ 9223372036854775807 := hlens.2.1.1
 have hT : TabOK Tryz.prog S_laws_eqIntSS_tab := (.cons S_laws_eqIntS_ok .nil)
 refine wp_seq ?_
 refine at_regq [] { ts := [0, 1, 4], os := [] } [] gamOK hT h (by kernel_rfl) trivial fun a w h => then_normal (wp_seq (wp_seq ?_))
 refine at_regq [] { ts := [0, 1, 4, 10], os := [] } [] gamOK hT h (by kernel_rfl) trivial fun a w h => then_normal ?_
 refine at_test (!decide (((List.length x0 : Nat) : Int) = ((List.length x1 : Nat) : Int))) h (by kernel_rfl) (fun h1 => ?_) (fun h1 => ?_)
 ·replace h1 : ¬ (((List.length x0 : Nat) : Int) = ((List.length x1 : Nat) : Int)) := of_decide_eq_false (notT h1)
  refine wp_seq ?_
  refine at_regq [] { ts := [0, 1, 4], os := [] } [] gamOK hT h (by kernel_rfl) trivial fun a w h => then_normal (wp_ret (then_ret ?_))
  exact at_return (false, ()) [] h (by kernel_rfl) trivial (congrArg (fun z => (z, ())) (show (false) = (Sh.eqB s55) x0 x1 from by exact (Sh.eqB_ne (fun e => h1 (by rw [e]))).symm))
 ·replace h1 : ((List.length x0 : Nat) : Int) = ((List.length x1 : Nat) : Int) := of_decide_eq_true (notF h1)
  refine wp_skip (then_normal (wp_seq (wp_seq ?_)))
  refine at_regq [] { ts := [0, 1, 4, 5], os := [] } [] gamOK hT h (by kernel_rfl) trivial fun a w h => then_normal (wp_block ?_)
  replace h := at_out (σ' := ⟨[(0, aF s22 x0), (1, aF s22 x1), (4, aB false), (5, aI 0)], []⟩) { ts := [0, 1, 4, 5], os := [] } h (by kernel_rfl)
  refine at_loop (fun i : Nat => (⟨[(0, aF s22 x0), (1, aF s22 x1), (4, aB false), (5, aI ((i : Nat) : Int))], []⟩ : St)) (fun i => (i ≤ List.length x0 ∧ x0.take i = x1.take i)) (fun i => List.length x0 - i) (0) h (st_congr1 (fun (d0 : Int) => (⟨[(0, aF s22 x0), (1, aF s22 x1), (4, aB false), (5, aI d0)], []⟩ : St)) (show (0 : Int) = (((0) : Nat) : Int) from by first | with_reducible rfl | (rfl) | rfl)) (by exact ⟨Nat.zero_le _, rfl⟩) ?_
  intro i a w hok0 h
  refine wp_seq (wp_seq ?_)
  refine at_regq [] { ts := [0, 1, 4, 5, 14], os := [] } [] gamOK hT h (by kernel_rfl) trivial fun a w h => then_normal ?_
  refine at_test (decide (((i : Nat) : Int) < ((List.length x0 : Nat) : Int))) h (by kernel_rfl) (fun h2 => ?_) (fun h2 => ?_)
  ·replace h2 : ((i : Nat) : Int) < ((List.length x0 : Nat) : Int) := of_decide_eq_true h2
   refine wp_skip (then_normal (wp_seq (wp_block (wp_seq ?_))))
   refine at_anyq [{}, {}, {}, {}, {}, {}, {}, {}, {}, {}] { ts := [0, 1, 4, 5, 26], os := [] } [(0 : Int) ≤ ((i : Nat) : Int) ∧ ((i : Nat) : Int) < ((List.length x0 : Nat) : Int), (0 : Int) ≤ ((i : Nat) : Int) ∧ ((i : Nat) : Int) < ((List.length x1 : Nat) : Int), True] gamOK hT mixed h (by kernel_rfl) ⟨(by refine ⟨?_, ?_⟩ <;> (first | omega | (simp only [lsA]; omega) | (simp <;> omega))), (by refine ⟨?_, ?_⟩ <;> (first | omega | (simp only [lsA]; omega) | (simp <;> omega))), trivial, trivial⟩ fun a w h => then_normal ?_
   refine at_test (!((Sh.eqB s22) (x0.getD i []) (x1.getD i []))) h (by kernel_rfl) (fun h3 => ?_) (fun h3 => ?_)
   ·replace h3 : ((Sh.eqB s22) (x0.getD i []) (x1.getD i [])) = false := notT h3
    refine wp_seq ?_
    refine at_regq [] { ts := [0, 1, 4, 5], os := [] } [] gamOK hT h (by kernel_rfl) trivial fun a w h => then_normal (wp_ret (in_ret (then_ret (then_ret (in_ret (then_ret ?_))))))
    exact at_return (false, ()) [] h (by kernel_rfl) trivial (congrArg (fun z => (z, ())) (show (false) = (Sh.eqB s55) x0 x1 from by exact (Sh.eqB_ne (s := s55) (fun e => Sh.of_eqB_ne h3 (by rw [e]))).symm))
   ·replace h3 : ((Sh.eqB s22) (x0.getD i []) (x1.getD i [])) = true := notF h3
    refine wp_skip (in_normal (then_normal ?_))
    refine at_regq [{}, { nw := true }] { ts := [0, 1, 4, 5], os := [] } [I64 (((i : Nat) : Int) + 1)] gamOK hT h (by kernel_rfl) ⟨⟨by first | omega | (simp only [lsA]; omega) | (simp <;> omega), by first | omega | (simp only [lsA]; omega) | (simp <;> omega)⟩, trivial⟩ fun a w h => ?_
    replace h := at_out (σ' := ⟨[(0, aF s22 x0), (1, aF s22 x1), (4, aB false), (5, aI (((i : Nat) : Int) + 1))], []⟩) { ts := [0, 1, 4, 5], os := [] } h (by kernel_rfl)
    exact ⟨i + 1, at_eq h (st_congr1 (fun (d0 : Int) => (⟨[(0, aF s22 x0), (1, aF s22 x1), (4, aB false), (5, aI d0)], []⟩ : St)) (show (((i : Nat) : Int) + 1 : Int) = (((i + 1) : Nat) : Int) from by first | with_reducible rfl | (omega) | rfl)), (by exact ⟨by omega, eqTo_step (z := []) (by omega) (by omega) hok0.2 (Sh.of_eqB h3)⟩), (by omega)⟩
  ·replace h2 : ¬ (((i : Nat) : Int) < ((List.length x0 : Nat) : Int)) := of_decide_eq_false h2
   refine wp_exit (then_exit (then_exit (in_hit (then_normal (wp_seq ?_)))))
   refine at_regq [] { ts := [4], os := [] } [] gamOK hT h (by kernel_rfl) trivial fun a w h => then_normal (wp_ret ?_)
   exact at_return (true, ()) [] h (by kernel_rfl) trivial (congrArg (fun z => (z, ())) (show (true) = (Sh.eqB s55) x0 x1 from by (have e := hok0.2; rw [take_all (by omega), take_all (by omega)] at e; exact ((Sh.eqB_iff s55).2 e).symm)))

def S_laws_eqBasis : Sum := { fid := 70, dom := [s67, s67], cod := [(.bool 4)], dp := true, fz := false, pre := fun x => True, g := fun x => (((Sh.eqB s67) x.1 x.2.1), ()) }
def S_laws_eqBasis_tab : List (Nat × Sum) := [(71, S_laws_eqIntSS)]
theorem S_laws_eqBasis_ok : FnOK Tryz.prog 70 S_laws_eqBasis := by
 refine at_enter 16 (fun x => ⟨[(0, aG [cI x.1.1, .ro s22 x.1.2]), (1, aG [cI x.2.1.1, .ro s22 x.2.1.2])], []⟩) Tryz.func70 rfl (by kernel_rfl) (fun x => rfl) ?_
 rintro w0 Z0 ⟨x0, x1, u⟩ a w
 revert x0 x1
 intro (x0 : T67) (x1 : T67) hpre hlens h
 have hl1 : List.length x0.2 ≤ 9223372036854775807 := hlens.1.2.1
 have hl2 : List.length x1.2 ≤ 9223372036854775807 := hlens.2.1.2.1
 have hT : TabOK Tryz.prog S_laws_eqBasis_tab := (.cons S_laws_eqIntSS_ok .nil)
 refine wp_seq ?_
 refine at_regq [{ ids := [1] }, { ids := [2] }] { ts := [2, 3, 4], os := [1, 2] } [] gamOK hT h (by kernel_rfl) trivial fun a w h => then_normal (wp_seq (wp_seq ?_))
 refine at_regq [] { ts := [2, 3, 4, 9], os := [1, 2] } [] gamOK hT h (by kernel_rfl) trivial fun a w h => then_normal ?_
 refine at_test (!decide (x0.1 = x1.1)) h (by kernel_rfl) (fun h1 => ?_) (fun h1 => ?_)
 ·replace h1 : ¬ (x0.1 = x1.1) := of_decide_eq_false (notT h1)
  refine wp_seq ?_
  refine at_regq [] { ts := [2, 3, 4], os := [1, 2] } [] gamOK hT h (by kernel_rfl) trivial fun a w h => then_normal (wp_ret (then_ret ?_))
  exact at_return (false, ()) [] h (by kernel_rfl) trivial (congrArg (fun z => (z, ())) (show (false) = (Sh.eqB s67) x0 x1 from by exact (Sh.eqB_ne (s := s67) (fun e => h1 (congrArg (fun (y : T67) => y.1) e))).symm))
 ·replace h1 : x0.1 = x1.1 := of_decide_eq_true (notF h1)
  refine wp_skip (then_normal (wp_seq (wp_seq ?_)))
  refine at_regq [] { ts := [4, 15], os := [] } [True] gamOK hT h (by kernel_rfl) ⟨trivial, trivial⟩ fun a w h => then_normal ?_
  refine at_test (!((Sh.eqB s55) x0.2 x1.2)) h (by kernel_rfl) (fun h2 => ?_) (fun h2 => ?_)
  ·replace h2 : ((Sh.eqB s55) x0.2 x1.2) = false := notT h2
   refine wp_seq ?_
   refine at_regq [] { ts := [4], os := [] } [] gamOK hT h (by kernel_rfl) trivial fun a w h => then_normal (wp_ret (then_ret ?_))
   exact at_return (false, ()) [] h (by kernel_rfl) trivial (congrArg (fun z => (z, ())) (show (false) = (Sh.eqB s67) x0 x1 from by exact (Sh.eqB_ne (s := s67) (fun e => Sh.of_eqB_ne h2 (congrArg (fun (y : T67) => y.2) e))).symm))
  ·replace h2 : ((Sh.eqB s55) x0.2 x1.2) = true := notF h2
   refine wp_skip (then_normal (wp_seq ?_))
   refine at_regq [] { ts := [4], os := [] } [] gamOK hT h (by kernel_rfl) trivial fun a w h => then_normal (wp_ret ?_)
   exact at_return (true, ()) [] h (by kernel_rfl) trivial (congrArg (fun z => (z, ())) (show (true) = (Sh.eqB s67) x0 x1 from by exact ((Sh.eqB_iff s67).2 (Prod.ext h1 (Sh.of_eqB h2))).symm))

def S_laws_eqByteS : Sum := { fid := 8, dom := [s28, s28], cod := [(.bool 4)], dp := true, fz := false, pre := fun x => True, g := fun x => (((Sh.eqB s28) x.1 x.2.1), ()) }
def S_laws_eqByteS_tab : List (Nat × Sum) := []
theorem S_laws_eqByteS_ok : FnOK Tryz.prog 8 S_laws_eqByteS := by
 refine at_enter 26 (fun x => ⟨[(0, aF (.u8 5) x.1), (1, aF (.u8 5) x.2.1)], []⟩) Tryz.func8 rfl (by kernel_rfl) (fun x => rfl) ?_
 rintro w0 Z0 ⟨x0, x1, u⟩ a w
 revert x0 x1
 intro (x0 : (List Int)) (x1 : (List Int)) hpre hlens h
 have hl1 : List.length x0 ≤ 9223372036854775807 := hlens.1.1
 have hu0 : u8L x0 := hlens.1.2
 have hl2 : List.length x1 ≤ 9223372036854775807 := hlens.2.1.1
 have hu1 : u8L x1 := hlens.2.1.2
 have hT : TabOK Tryz.prog S_laws_eqByteS_tab := .nil
 refine wp_seq ?_
 refine at_regq [] { ts := [0, 1, 4], os := [] } [] gamOK hT h (by kernel_rfl) trivial fun a w h => then_normal (wp_seq (wp_seq ?_))
 refine at_regq [] { ts := [0, 1, 4, 10], os := [] } [] gamOK hT h (by kernel_rfl) trivial fun a w h => then_normal ?_
 refine at_test (!decide (((List.length x0 : Nat) : Int) = ((List.length x1 : Nat) : Int))) h (by kernel_rfl) (fun h1 => ?_) (fun h1 => ?_)
 ·replace h1 : ¬ (((List.length x0 : Nat) : Int) = ((List.length x1 : Nat) : Int)) := of_decide_eq_false (notT h1)
  refine wp_seq ?_
  refine at_regq [] { ts := [0, 1, 4], os := [] } [] gamOK hT h (by kernel_rfl) trivial fun a w h => then_normal (wp_ret (then_ret ?_))
  exact at_return (false, ()) [] h (by kernel_rfl) trivial (congrArg (fun z => (z, ())) (show (false) = (Sh.eqB s28) x0 x1 from by exact (Sh.eqB_ne (fun e => h1 (by rw [e]))).symm))
 ·replace h1 : ((List.length x0 : Nat) : Int) = ((List.length x1 : Nat) : Int) := of_decide_eq_true (notF h1)
  refine wp_skip (then_normal (wp_seq (wp_seq ?_)))
  refine at_regq [] { ts := [0, 1, 4, 5], os := [] } [] gamOK hT h (by kernel_rfl) trivial fun a w h => then_normal (wp_block ?_)
  replace h := at_out (σ' := ⟨[(0, aF (.u8 5) x0), (1, aF (.u8 5) x1), (4, aB false), (5, aI 0)], []⟩) { ts := [0, 1, 4, 5], os := [] } h (by kernel_rfl)
  refine at_loop (fun i : Nat => (⟨[(0, aF (.u8 5) x0), (1, aF (.u8 5) x1), (4, aB false), (5, aI ((i : Nat) : Int))], []⟩ : St)) (fun i => (i ≤ List.length x0 ∧ x0.take i = x1.take i)) (fun i => List.length x0 - i) (0) h (st_congr1 (fun (d0 : Int) => (⟨[(0, aF (.u8 5) x0), (1, aF (.u8 5) x1), (4, aB false), (5, aI d0)], []⟩ : St)) (show (0 : Int) = (((0) : Nat) : Int) from by first | with_reducible rfl | (rfl) | rfl)) (by exact ⟨Nat.zero_le _, rfl⟩) ?_
  intro i a w hok0 h
  refine wp_seq (wp_seq ?_)
  refine at_regq [] { ts := [0, 1, 4, 5, 14], os := [] } [] gamOK hT h (by kernel_rfl) trivial fun a w h => then_normal ?_
  refine at_test (decide (((i : Nat) : Int) < ((List.length x0 : Nat) : Int))) h (by kernel_rfl) (fun h2 => ?_) (fun h2 => ?_)
  ·replace h2 : ((i : Nat) : Int) < ((List.length x0 : Nat) : Int) := of_decide_eq_true h2
   refine wp_skip (then_normal (wp_seq (wp_block (wp_seq ?_))))
   refine at_anyq [{}, {}, {}, {}, {}, {}, {}, {}, {}] { ts := [0, 1, 4, 5, 25], os := [] } [(0 : Int) ≤ ((i : Nat) : Int) ∧ ((i : Nat) : Int) < ((List.length x0 : Nat) : Int), (0 : Int) ≤ ((i : Nat) : Int) ∧ ((i : Nat) : Int) < ((List.length x1 : Nat) : Int)] gamOK hT mixed h (by kernel_rfl) ⟨(by refine ⟨?_, ?_⟩ <;> (first | omega | (simp only [lsA]; omega) | (simp <;> omega))), (by refine ⟨?_, ?_⟩ <;> (first | omega | (simp only [lsA]; omega) | (simp <;> omega))), trivial⟩ fun a w h => then_normal ?_
   refine at_test (!decide ((x0.getD i 0) = (x1.getD i 0))) h (by kernel_rfl) (fun h3 => ?_) (fun h3 => ?_)
   ·replace h3 : ¬ ((x0.getD i 0) = (x1.getD i 0)) := of_decide_eq_false (notT h3)
    refine wp_seq ?_
    refine at_regq [] { ts := [0, 1, 4, 5], os := [] } [] gamOK hT h (by kernel_rfl) trivial fun a w h => then_normal (wp_ret (in_ret (then_ret (then_ret (in_ret (then_ret ?_))))))
    exact at_return (false, ()) [] h (by kernel_rfl) trivial (congrArg (fun z => (z, ())) (show (false) = (Sh.eqB s28) x0 x1 from by exact (Sh.eqB_ne (s := s28) (fun e => h3 (by rw [e]))).symm))
   ·replace h3 : (x0.getD i 0) = (x1.getD i 0) := of_decide_eq_true (notF h3)
    refine wp_skip (in_normal (then_normal ?_))
    refine at_regq [{}, { nw := true }] { ts := [0, 1, 4, 5], os := [] } [I64 (((i : Nat) : Int) + 1)] gamOK hT h (by kernel_rfl) ⟨⟨by first | omega | (simp only [lsA]; omega) | (simp <;> omega), by first | omega | (simp only [lsA]; omega) | (simp <;> omega)⟩, trivial⟩ fun a w h => ?_
    replace h := at_out (σ' := ⟨[(0, aF (.u8 5) x0), (1, aF (.u8 5) x1), (4, aB false), (5, aI (((i : Nat) : Int) + 1))], []⟩) { ts := [0, 1, 4, 5], os := [] } h (by kernel_rfl)
    exact ⟨i + 1, at_eq h (st_congr1 (fun (d0 : Int) => (⟨[(0, aF (.u8 5) x0), (1, aF (.u8 5) x1), (4, aB false), (5, aI d0)], []⟩ : St)) (show (((i : Nat) : Int) + 1 : Int) = (((i + 1) : Nat) : Int) from by first | with_reducible rfl | (omega) | rfl)), (by exact ⟨by omega, eqTo_step (z := 0) (by omega) (by omega) hok0.2 h3⟩), (by omega)⟩
  ·replace h2 : ¬ (((i : Nat) : Int) < ((List.length x0 : Nat) : Int)) := of_decide_eq_false h2
   refine wp_exit (then_exit (then_exit (in_hit (then_normal (wp_seq ?_)))))
   refine at_regq [] { ts := [4], os := [] } [] gamOK hT h (by kernel_rfl) trivial fun a w h => then_normal (wp_ret ?_)
   exact at_return (true, ()) [] h (by kernel_rfl) trivial (congrArg (fun z => (z, ())) (show (true) = (Sh.eqB s28) x0 x1 from by (have e := hok0.2; rw [take_all (by omega), take_all (by omega)] at e; exact ((Sh.eqB_iff s28).2 e).symm)))

def S_laws_eqDecoder : Sum := { fid := 40, dom := [s69, s69], cod := [(.bool 4)], dp := true, fz := false, pre := fun x => True, g := fun x => (((Sh.eqB s69) x.1 x.2.1), ()) }
def S_laws_eqDecoder_tab : List (Nat × Sum) := [(70, S_laws_eqBasis)]
theorem S_laws_eqDecoder_ok : FnOK Tryz.prog 40 S_laws_eqDecoder := by
 refine at_enter 26 (fun x => ⟨[(0, aG [cI x.1.1, cI x.1.2.1, cI x.1.2.2.1, cI x.1.2.2.2.1, .ro s22 x.1.2.2.2.2]), (1, aG [cI x.2.1.1, cI x.2.1.2.1, cI x.2.1.2.2.1, cI x.2.1.2.2.2.1, .ro s22 x.2.1.2.2.2.2])], []⟩) Tryz.func40 rfl (by kernel_rfl) (fun x => rfl) ?_
 rintro w0 Z0 ⟨x0, x1, u⟩ a w
 revert x0 x1
 intro (x0 : T69) (x1 : T69) hpre hlens h
 have hl1 : List.length x0.2.2.2.2 ≤ 9223372036854775807 := hlens.1.2.2.2.2.1
 have hl2 : List.length x1.2.2.2.2 ≤ 9223372036854775807 := hlens.2.1.2.2.2.2.1
 have hT : TabOK Tryz.prog S_laws_eqDecoder_tab := (.cons S_laws_eqBasis_ok .nil)
 refine wp_seq ?_
 refine at_regq [{ ids := [1] }, { ids := [2] }] { ts := [2, 3, 4], os := [1, 2] } [] gamOK hT h (by kernel_rfl) trivial fun a w h => then_normal (wp_seq (wp_seq ?_))
 refine at_regq [] { ts := [2, 3, 4, 9], os := [1, 2] } [] gamOK hT h (by kernel_rfl) trivial fun a w h => then_normal ?_
 refine at_test (!decide (x0.1 = x1.1)) h (by kernel_rfl) (fun h1 => ?_) (fun h1 => ?_)
 ·replace h1 : ¬ (x0.1 = x1.1) := of_decide_eq_false (notT h1)
  refine wp_seq ?_
  refine at_regq [] { ts := [2, 3, 4], os := [1, 2] } [] gamOK hT h (by kernel_rfl) trivial fun a w h => then_normal (wp_ret (then_ret ?_))
  exact at_return (false, ()) [] h (by kernel_rfl) trivial (congrArg (fun z => (z, ())) (show (false) = (Sh.eqB s69) x0 x1 from by exact (Sh.eqB_ne (s := s69) (fun e => h1 (congrArg (fun (y : T69) => y.1) e))).symm))
 ·replace h1 : x0.1 = x1.1 := of_decide_eq_true (notF h1)
  refine wp_skip (then_normal (wp_seq (wp_seq ?_)))
  refine at_regq [] { ts := [2, 3, 4, 14], os := [1, 2] } [] gamOK hT h (by kernel_rfl) trivial fun a w h => then_normal ?_
  refine at_test (!decide (x0.2.1 = x1.2.1)) h (by kernel_rfl) (fun h2 => ?_) (fun h2 => ?_)
  ·replace h2 : ¬ (x0.2.1 = x1.2.1) := of_decide_eq_false (notT h2)
   refine wp_seq ?_
   refine at_regq [] { ts := [2, 3, 4], os := [1, 2] } [] gamOK hT h (by kernel_rfl) trivial fun a w h => then_normal (wp_ret (then_ret ?_))
   exact at_return (false, ()) [] h (by kernel_rfl) trivial (congrArg (fun z => (z, ())) (show (false) = (Sh.eqB s69) x0 x1 from by exact (Sh.eqB_ne (s := s69) (fun e => h2 (congrArg (fun (y : T69) => y.2.1) e))).symm))
  ·replace h2 : x0.2.1 = x1.2.1 := of_decide_eq_true (notF h2)
   refine wp_skip (then_normal (wp_seq (wp_seq ?_)))
   refine at_regq [] { ts := [2, 3, 4, 19], os := [1, 2] } [] gamOK hT h (by kernel_rfl) trivial fun a w h => then_normal ?_
   refine at_test (!decide (x0.2.2.1 = x1.2.2.1)) h (by kernel_rfl) (fun h3 => ?_) (fun h3 => ?_)
   ·replace h3 : ¬ (x0.2.2.1 = x1.2.2.1) := of_decide_eq_false (notT h3)
    refine wp_seq ?_
    refine at_regq [] { ts := [2, 3, 4], os := [1, 2] } [] gamOK hT h (by kernel_rfl) trivial fun a w h => then_normal (wp_ret (then_ret ?_))
    exact at_return (false, ()) [] h (by kernel_rfl) trivial (congrArg (fun z => (z, ())) (show (false) = (Sh.eqB s69) x0 x1 from by exact (Sh.eqB_ne (s := s69) (fun e => h3 (congrArg (fun (y : T69) => y.2.2.1) e))).symm))
   ·replace h3 : x0.2.2.1 = x1.2.2.1 := of_decide_eq_true (notF h3)
    refine wp_skip (then_normal (wp_seq (wp_seq ?_)))
    refine at_regq [] { ts := [4, 25], os := [] } [True] gamOK hT h (by kernel_rfl) ⟨trivial, trivial⟩ fun a w h => then_normal ?_
    refine at_test (!((Sh.eqB s67) x0.2.2.2 x1.2.2.2)) h (by kernel_rfl) (fun h4 => ?_) (fun h4 => ?_)
    ·replace h4 : ((Sh.eqB s67) x0.2.2.2 x1.2.2.2) = false := notT h4
     refine wp_seq ?_
     refine at_regq [] { ts := [4], os := [] } [] gamOK hT h (by kernel_rfl) trivial fun a w h => then_normal (wp_ret (then_ret ?_))
     exact at_return (false, ()) [] h (by kernel_rfl) trivial (congrArg (fun z => (z, ())) (show (false) = (Sh.eqB s69) x0 x1 from by exact (Sh.eqB_ne (s := s69) (fun e => Sh.of_eqB_ne h4 (congrArg (fun (y : T69) => y.2.2.2) e))).symm))
    ·replace h4 : ((Sh.eqB s67) x0.2.2.2 x1.2.2.2) = true := notF h4
     refine wp_skip (then_normal (wp_seq ?_))
     refine at_regq [] { ts := [4], os := [] } [] gamOK hT h (by kernel_rfl) trivial fun a w h => then_normal (wp_ret ?_)
     exact at_return (true, ()) [] h (by kernel_rfl) trivial (congrArg (fun z => (z, ())) (show (true) = (Sh.eqB s69) x0 x1 from by exact ((Sh.eqB_iff s69).2 (Prod.ext h1 (Prod.ext h2 (Prod.ext h3 (Sh.of_eqB h4))))).symm))

def S_laws_eqDecoderS : Sum := { fid := 24, dom := [s31, s31], cod := [(.bool 4)], dp := true, fz := false, pre := fun x => True, g := fun x => (((Sh.eqB s31) x.1 x.2.1), ()) }
def S_laws_eqDecoderS_tab : List (Nat × Sum) := [(40, S_laws_eqDecoder)]
theorem S_laws_eqDecoderS_ok : FnOK Tryz.prog 24 S_laws_eqDecoderS := by
 refine at_enter 27 (fun x => ⟨[(0, aF s69 x.1), (1, aF s69 x.2.1)], []⟩) Tryz.func24 rfl (by kernel_rfl) (fun x => rfl) ?_
 rintro w0 Z0 ⟨x0, x1, u⟩ a w
 revert x0 x1
 intro (x0 : (List T69)) (x1 : (List T69)) hpre hlens h
 have hl1 : List.length x0 ≤ 9223372036854775807 := hlens.1.1
 have hl2 : List.length x1 ≤ 9223372036854775807 := hlens.2.1.1
 have hT : TabOK Tryz.prog S_laws_eqDecoderS_tab := (.cons S_laws_eqDecoder_ok .nil)
 refine wp_seq ?_
 refine at_regq [] { ts := [0, 1, 4], os := [] } [] gamOK hT h (by kernel_rfl) trivial fun a w h => then_normal (wp_seq (wp_seq ?_))
 refine at_regq [] { ts := [0, 1, 4, 10], os := [] } [] gamOK hT h (by kernel_rfl) trivial fun a w h => then_normal ?_
 refine at_test (!decide (((List.length x0 : Nat) : Int) = ((List.length x1 : Nat) : Int))) h (by kernel_rfl) (fun h1 => ?_) (fun h1 => ?_)
 ·replace h1 : ¬ (((List.length x0 : Nat) : Int) = ((List.length x1 : Nat) : Int)) := of_decide_eq_false (notT h1)
  refine wp_seq ?_
  refine at_regq [] { ts := [0, 1, 4], os := [] } [] gamOK hT h (by kernel_rfl) trivial fun a w h => then_normal (wp_ret (then_ret ?_))
  exact at_return (false, ()) [] h (by kernel_rfl) trivial (congrArg (fun z => (z, ())) (show (false) = (Sh.eqB s31) x0 x1 from by exact (Sh.eqB_ne (fun e => h1 (by rw [e]))).symm))
 ·replace h1 : ((List.length x0 : Nat) : Int) = ((List.length x1 : Nat) : Int) := of_decide_eq_true (notF h1)
  refine wp_skip (then_normal (wp_seq (wp_seq ?_)))
  refine at_regq [] { ts := [0, 1, 4, 5], os := [] } [] gamOK hT h (by kernel_rfl) trivial fun a w h => then_normal (wp_block ?_)
  replace h := at_out (σ' := ⟨[(0, aF s69 x0), (1, aF s69 x1), (4, aB false), (5, aI 0)], []⟩) { ts := [0, 1, 4, 5], os := [] } h (by kernel_rfl)
  refine at_loop (fun i : Nat => (⟨[(0, aF s69 x0), (1, aF s69 x1), (4, aB false), (5, aI ((i : Nat) : Int))], []⟩ : St)) (fun i => (i ≤ List.length x0 ∧ x0.take i = x1.take i)) (fun i => List.length x0 - i) (0) h (st_congr1 (fun (d0 : Int) => (⟨[(0, aF s69 x0), (1, aF s69 x1), (4, aB false), (5, aI d0)], []⟩ : St)) (show (0 : Int) = (((0) : Nat) : Int) from by first | with_reducible rfl | (rfl) | rfl)) (by exact ⟨Nat.zero_le _, rfl⟩) ?_
  intro i a w hok0 h
  refine wp_seq (wp_seq ?_)
  refine at_regq [] { ts := [0, 1, 4, 5, 14], os := [] } [] gamOK hT h (by kernel_rfl) trivial fun a w h => then_normal ?_
  refine at_test (decide (((i : Nat) : Int) < ((List.length x0 : Nat) : Int))) h (by kernel_rfl) (fun h2 => ?_) (fun h2 => ?_)
  ·replace h2 : ((i : Nat) : Int) < ((List.length x0 : Nat) : Int) := of_decide_eq_true h2
   refine wp_skip (then_normal (wp_seq (wp_block (wp_seq ?_))))
   refine at_anyq [{}, {}, {}, {}, {}, {}, {}, {}, {}, {}] { ts := [0, 1, 4, 5, 26], os := [] } [(0 : Int) ≤ ((i : Nat) : Int) ∧ ((i : Nat) : Int) < ((List.length x0 : Nat) : Int), (0 : Int) ≤ ((i : Nat) : Int) ∧ ((i : Nat) : Int) < ((List.length x1 : Nat) : Int), True] gamOK hT mixed h (by kernel_rfl) ⟨(by refine ⟨?_, ?_⟩ <;> (first | omega | (simp only [lsA]; omega) | (simp <;> omega))), (by refine ⟨?_, ?_⟩ <;> (first | omega | (simp only [lsA]; omega) | (simp <;> omega))), trivial, trivial⟩ fun a w h => then_normal ?_
   refine at_test (!((Sh.eqB s69) (x0.getD i (0, (0, (0, (0, []))))) (x1.getD i (0, (0, (0, (0, []))))))) h (by kernel_rfl) (fun h3 => ?_) (fun h3 => ?_)
   ·replace h3 : ((Sh.eqB s69) (x0.getD i (0, (0, (0, (0, []))))) (x1.getD i (0, (0, (0, (0, [])))))) = false := notT h3
    refine wp_seq ?_
    refine at_regq [] { ts := [0, 1, 4, 5], os := [] } [] gamOK hT h (by kernel_rfl) trivial fun a w h => then_normal (wp_ret (in_ret (then_ret (then_ret (in_ret (then_ret ?_))))))
    exact at_return (false, ()) [] h (by kernel_rfl) trivial (congrArg (fun z => (z, ())) (show (false) = (Sh.eqB s31) x0 x1 from by exact (Sh.eqB_ne (s := s31) (fun e => Sh.of_eqB_ne h3 (by rw [e]))).symm))
   ·replace h3 : ((Sh.eqB s69) (x0.getD i (0, (0, (0, (0, []))))) (x1.getD i (0, (0, (0, (0, [])))))) = true := notF h3
    refine wp_skip (in_normal (then_normal ?_))
    refine at_regq [{}, { nw := true }] { ts := [0, 1, 4, 5], os := [] } [I64 (((i : Nat) : Int) + 1)] gamOK hT h (by kernel_rfl) ⟨⟨by first | omega | (simp only [lsA]; omega) | (simp <;> omega), by first | omega | (simp only [lsA]; omega) | (simp <;> omega)⟩, trivial⟩ fun a w h => ?_
    replace h := at_out (σ' := ⟨[(0, aF s69 x0), (1, aF s69 x1), (4, aB false), (5, aI (((i : Nat) : Int) + 1))], []⟩) { ts := [0, 1, 4, 5], os := [] } h (by kernel_rfl)
    exact ⟨i + 1, at_eq h (st_congr1 (fun (d0 : Int) => (⟨[(0, aF s69 x0), (1, aF s69 x1), (4, aB false), (5, aI d0)], []⟩ : St)) (show (((i : Nat) : Int) + 1 : Int) = (((i + 1) : Nat) : Int) from by first | with_reducible rfl | (omega) | rfl)), (by exact ⟨by omega, eqTo_step (z := (0, (0, (0, (0, []))))) (by omega) (by omega) hok0.2 (Sh.of_eqB h3)⟩), (by omega)⟩
  ·replace h2 : ¬ (((i : Nat) : Int) < ((List.length x0 : Nat) : Int)) := of_decide_eq_false h2
   refine wp_exit (then_exit (then_exit (in_hit (then_normal (wp_seq ?_)))))
   refine at_regq [] { ts := [4], os := [] } [] gamOK hT h (by kernel_rfl) trivial fun a w h => then_normal (wp_ret ?_)
   exact at_return (true, ()) [] h (by kernel_rfl) trivial (congrArg (fun z => (z, ())) (show (true) = (Sh.eqB s31) x0 x1 from by (have e := hok0.2; rw [take_all (by omega), take_all (by omega)] at e; exact ((Sh.eqB_iff s31).2 e).symm)))

def S_laws_eqGeneration : Sum := { fid := 41, dom := [s64, s64], cod := [(.bool 4)], dp := true, fz := false, pre := fun x => True, g := fun x => (((Sh.eqB s64) x.1 x.2.1), ()) }
def S_laws_eqGeneration_tab : List (Nat × Sum) := [(71, S_laws_eqIntSS)]
theorem S_laws_eqGeneration_ok : FnOK Tryz.prog 41 S_laws_eqGeneration := by
 refine at_enter 16 (fun x => ⟨[(0, aG [cI x.1.1, .ro s22 x.1.2]), (1, aG [cI x.2.1.1, .ro s22 x.2.1.2])], []⟩) Tryz.func41 rfl (by kernel_rfl) (fun x => rfl) ?_
 rintro w0 Z0 ⟨x0, x1, u⟩ a w
 revert x0 x1
 intro (x0 : T64) (x1 : T64) hpre hlens h
 have hl1 : List.length x0.2 ≤ 9223372036854775807 := hlens.1.2.1
 have hl2 : List.length x1.2 ≤ 9223372036854775807 := hlens.2.1.2.1
 have hT : TabOK Tryz.prog S_laws_eqGeneration_tab := (.cons S_laws_eqIntSS_ok .nil)
 refine wp_seq ?_
 refine at_regq [{ ids := [1] }, { ids := [2] }] { ts := [2, 3, 4], os := [1, 2] } [] gamOK hT h (by kernel_rfl) trivial fun a w h => then_normal (wp_seq (wp_seq ?_))
 refine at_regq [] { ts := [2, 3, 4, 9], os := [1, 2] } [] gamOK hT h (by kernel_rfl) trivial fun a w h => then_normal ?_
 refine at_test (!decide (x0.1 = x1.1)) h (by kernel_rfl) (fun h1 => ?_) (fun h1 => ?_)
 ·replace h1 : ¬ (x0.1 = x1.1) := of_decide_eq_false (notT h1)
  refine wp_seq ?_
  refine at_regq [] { ts := [2, 3, 4], os := [1, 2] } [] gamOK hT h (by kernel_rfl) trivial fun a w h => then_normal (wp_ret (then_ret ?_))
  exact at_return (false, ()) [] h (by kernel_rfl) trivial (congrArg (fun z => (z, ())) (show (false) = (Sh.eqB s64) x0 x1 from by exact (Sh.eqB_ne (s := s64) (fun e => h1 (congrArg (fun (y : T64) => y.1) e))).symm))
 ·replace h1 : x0.1 = x1.1 := of_decide_eq_true (notF h1)
  refine wp_skip (then_normal (wp_seq (wp_seq ?_)))
  refine at_regq [] { ts := [4, 15], os := [] } [True] gamOK hT h (by kernel_rfl) ⟨trivial, trivial⟩ fun a w h => then_normal ?_
  refine at_test (!((Sh.eqB s55) x0.2 x1.2)) h (by kernel_rfl) (fun h2 => ?_) (fun h2 => ?_)
  ·replace h2 : ((Sh.eqB s55) x0.2 x1.2) = false := notT h2
   refine wp_seq ?_
   refine at_regq [] { ts := [4], os := [] } [] gamOK hT h (by kernel_rfl) trivial fun a w h => then_normal (wp_ret (then_ret ?_))
   exact at_return (false, ()) [] h (by kernel_rfl) trivial (congrArg (fun z => (z, ())) (show (false) = (Sh.eqB s64) x0 x1 from by exact (Sh.eqB_ne (s := s64) (fun e => Sh.of_eqB_ne h2 (congrArg (fun (y : T64) => y.2) e))).symm))
  ·replace h2 : ((Sh.eqB s55) x0.2 x1.2) = true := notF h2
   refine wp_skip (then_normal (wp_seq ?_))
   refine at_regq [] { ts := [4], os := [] } [] gamOK hT h (by kernel_rfl) trivial fun a w h => then_normal (wp_ret ?_)
   exact at_return (true, ()) [] h (by kernel_rfl) trivial (congrArg (fun z => (z, ())) (show (true) = (Sh.eqB s64) x0 x1 from by exact ((Sh.eqB_iff s64).2 (Prod.ext h1 (Sh.of_eqB h2))).symm))

def S_laws_eqGenerationS : Sum := { fid := 25, dom := [s32, s32], cod := [(.bool 4)], dp := true, fz := false, pre := fun x => True, g := fun x => (((Sh.eqB s32) x.1 x.2.1), ()) }
def S_laws_eqGenerationS_tab : List (Nat × Sum) := [(41, S_laws_eqGeneration)]
theorem S_laws_eqGenerationS_ok : FnOK Tryz.prog 25 S_laws_eqGenerationS := by
 refine at_enter 27 (fun x => ⟨[(0, aF s64 x.1), (1, aF s64 x.2.1)], []⟩) Tryz.func25 rfl (by kernel_rfl) (fun x => rfl) ?_
 rintro w0 Z0 ⟨x0, x1, u⟩ a w
 revert x0 x1
 intro (x0 : (List T64)) (x1 : (List T64)) hpre hlens h
 have hl1 : List.length x0 ≤ 9223372036854775807 := hlens.1.1
 have hl2 : List.length x1 ≤ 9223372036854775807 := hlens.2.1.1
 have hT : TabOK Tryz.prog S_laws_eqGenerationS_tab := (.cons S_laws_eqGeneration_ok .nil)
 refine wp_seq ?_
 refine at_regq [] { ts := [0, 1, 4], os := [] } [] gamOK hT h (by kernel_rfl) trivial fun a w h => then_normal (wp_seq (wp_seq ?_))
 refine at_regq [] { ts := [0, 1, 4, 10], os := [] } [] gamOK hT h (by kernel_rfl) trivial fun a w h => then_normal ?_
 refine at_test (!decide (((List.length x0 : Nat) : Int) = ((List.length x1 : Nat) : Int))) h (by kernel_rfl) (fun h1 => ?_) (fun h1 => ?_)
 ·replace h1 : ¬ (((List.length x0 : Nat) : Int) = ((List.length x1 : Nat) : Int)) := of_decide_eq_false (notT h1)
  refine wp_seq ?_
  refine at_regq [] { ts := [0, 1, 4], os := [] } [] gamOK hT h (by kernel_rfl) trivial fun a w h => then_normal (wp_ret (then_ret ?_))
  exact at_return (false, ()) [] h (by kernel_rfl) trivial (congrArg (fun z => (z, ())) (show (false) = (Sh.eqB s32) x0 x1 from by exact (Sh.eqB_ne (fun e => h1 (by rw [e]))).symm))
 ·replace h1 : ((List.length x0 : Nat) : Int) = ((List.length x1 : Nat) : Int) := of_decide_eq_true (notF h1)
  refine wp_skip (then_normal (wp_seq (wp_seq ?_)))
  refine at_regq [] { ts := [0, 1, 4, 5], os := [] } [] gamOK hT h (by kernel_rfl) trivial fun a w h => then_normal (wp_block ?_)
  replace h := at_out (σ' := ⟨[(0, aF s64 x0), (1, aF s64 x1), (4, aB false), (5, aI 0)], []⟩) { ts := [0, 1, 4, 5], os := [] } h (by kernel_rfl)
  refine at_loop (fun i : Nat => (⟨[(0, aF s64 x0), (1, aF s64 x1), (4, aB false), (5, aI ((i : Nat) : Int))], []⟩ : St)) (fun i => (i ≤ List.length x0 ∧ x0.take i = x1.take i)) (fun i => List.length x0 - i) (0) h (st_congr1 (fun (d0 : Int) => (⟨[(0, aF s64 x0), (1, aF s64 x1), (4, aB false), (5, aI d0)], []⟩ : St)) (show (0 : Int) = (((0) : Nat) : Int) from by first | with_reducible rfl | (rfl) | rfl)) (by exact ⟨Nat.zero_le _, rfl⟩) ?_
  intro i a w hok0 h
  refine wp_seq (wp_seq ?_)
  refine at_regq [] { ts := [0, 1, 4, 5, 14], os := [] } [] gamOK hT h (by kernel_rfl) trivial fun a w h => then_normal ?_
  refine at_test (decide (((i : Nat) : Int) < ((List.length x0 : Nat) : Int))) h (by kernel_rfl) (fun h2 => ?_) (fun h2 => ?_)
  ·replace h2 : ((i : Nat) : Int) < ((List.length x0 : Nat) : Int) := of_decide_eq_true h2
   refine wp_skip (then_normal (wp_seq (wp_block (wp_seq ?_))))
   refine at_anyq [{}, {}, {}, {}, {}, {}, {}, {}, {}, {}] { ts := [0, 1, 4, 5, 26], os := [] } [(0 : Int) ≤ ((i : Nat) : Int) ∧ ((i : Nat) : Int) < ((List.length x0 : Nat) : Int), (0 : Int) ≤ ((i : Nat) : Int) ∧ ((i : Nat) : Int) < ((List.length x1 : Nat) : Int), True] gamOK hT mixed h (by kernel_rfl) ⟨(by refine ⟨?_, ?_⟩ <;> (first | omega | (simp only [lsA]; omega) | (simp <;> omega))), (by refine ⟨?_, ?_⟩ <;> (first | omega | (simp only [lsA]; omega) | (simp <;> omega))), trivial, trivial⟩ fun a w h => then_normal ?_
   refine at_test (!((Sh.eqB s64) (x0.getD i (0, [])) (x1.getD i (0, [])))) h (by kernel_rfl) (fun h3 => ?_) (fun h3 => ?_)
   ·replace h3 : ((Sh.eqB s64) (x0.getD i (0, [])) (x1.getD i (0, []))) = false := notT h3
    refine wp_seq ?_
    refine at_regq [] { ts := [0, 1, 4, 5], os := [] } [] gamOK hT h (by kernel_rfl) trivial fun a w h => then_normal (wp_ret (in_ret (then_ret (then_ret (in_ret (then_ret ?_))))))
    exact at_return (false, ()) [] h (by kernel_rfl) trivial (congrArg (fun z => (z, ())) (show (false) = (Sh.eqB s32) x0 x1 from by exact (Sh.eqB_ne (s := s32) (fun e => Sh.of_eqB_ne h3 (by rw [e]))).symm))
   ·replace h3 : ((Sh.eqB s64) (x0.getD i (0, [])) (x1.getD i (0, []))) = true := notF h3
    refine wp_skip (in_normal (then_normal ?_))
    refine at_regq [{}, { nw := true }] { ts := [0, 1, 4, 5], os := [] } [I64 (((i : Nat) : Int) + 1)] gamOK hT h (by kernel_rfl) ⟨⟨by first | omega | (simp only [lsA]; omega) | (simp <;> omega), by first | omega | (simp only [lsA]; omega) | (simp <;> omega)⟩, trivial⟩ fun a w h => ?_
    replace h := at_out (σ' := ⟨[(0, aF s64 x0), (1, aF s64 x1), (4, aB false), (5, aI (((i : Nat) : Int) + 1))], []⟩) { ts := [0, 1, 4, 5], os := [] } h (by kernel_rfl)
    exact ⟨i + 1, at_eq h (st_congr1 (fun (d0 : Int) => (⟨[(0, aF s64 x0), (1, aF s64 x1), (4, aB false), (5, aI d0)], []⟩ : St)) (show (((i : Nat) : Int) + 1 : Int) = (((i + 1) : Nat) : Int) from by first | with_reducible rfl | (omega) | rfl)), (by exact ⟨by omega, eqTo_step (z := (0, [])) (by omega) (by omega) hok0.2 (Sh.of_eqB h3)⟩), (by omega)⟩
  ·replace h2 : ¬ (((i : Nat) : Int) < ((List.length x0 : Nat) : Int)) := of_decide_eq_false h2
   refine wp_exit (then_exit (then_exit (in_hit (then_normal (wp_seq ?_)))))
   refine at_regq [] { ts := [4], os := [] } [] gamOK hT h (by kernel_rfl) trivial fun a w h => then_normal (wp_ret ?_)
   exact at_return (true, ()) [] h (by kernel_rfl) trivial (congrArg (fun z => (z, ())) (show (true) = (Sh.eqB s32) x0 x1 from by (have e := hok0.2; rw [take_all (by omega), take_all (by omega)] at e; exact ((Sh.eqB_iff s32).2 e).symm)))

def S_laws_eqSink : Sum := { fid := 9, dom := [s34, s34], cod := [(.bool 4)], dp := true, fz := false, pre := fun x => True, g := fun x => (((Sh.eqB s34) x.1 x.2.1), ()) }
def S_laws_eqSink_tab : List (Nat × Sum) := [(23, S_laws_eqIntS), (24, S_laws_eqDecoderS), (25, S_laws_eqGenerationS)]
theorem S_laws_eqSink_ok : FnOK Tryz.prog 9 S_laws_eqSink := by
 refine at_enter 38 (fun x => ⟨[(0, aG [cI x.1.1, cI x.1.2.1, .ro (.int 3) x.1.2.2.1, .ro s69 x.1.2.2.2.1, .ro s64 x.1.2.2.2.2.1, cI x.1.2.2.2.2.2]), (1, aG [cI x.2.1.1, cI x.2.1.2.1, .ro (.int 3) x.2.1.2.2.1, .ro s69 x.2.1.2.2.2.1, .ro s64 x.2.1.2.2.2.2.1, cI x.2.1.2.2.2.2.2])], []⟩) Tryz.func9 rfl (by kernel_rfl) (fun x => rfl) ?_
 rintro w0 Z0 ⟨x0, x1, u⟩ a w
 revert x0 x1
 intro (x0 : T34) (x1 : T34) hpre hlens h
 have hl1 : List.length x0.2.2.1 ≤ 9223372036854775807 := hlens.1.2.2.1.1
 have hl2 : List.length x0.2.2.2.1 ≤ 9223372036854775807 := hlens.1.2.2.2.1.1
 have hl3 : List.length x0.2.2.2.2.1 ≤ 9223372036854775807 := hlens.1.2.2.2.2.1.1
 have hl4 : List.length x1.2.2.1 ≤ 9223372036854775807 := hlens.2.1.2.2.1.1
 have hl5 : List.length x1.2.2.2.1 ≤ 9223372036854775807 := hlens.2.1.2.2.2.1.1
 have hl6 : List.length x1.2.2.2.2.1 ≤ 9223372036854775807 := hlens.2.1.2.2.2.2.1.1
 have hT : TabOK Tryz.prog S_laws_eqSink_tab := (.cons S_laws_eqIntS_ok (.cons S_laws_eqDecoderS_ok (.cons S_laws_eqGenerationS_ok .nil)))
 refine wp_seq ?_
 refine at_regq [{ ids := [1] }, { ids := [2] }] { ts := [2, 3, 4], os := [1, 2] } [] gamOK hT h (by kernel_rfl) trivial fun a w h => then_normal (wp_seq (wp_seq ?_))
 refine at_regq [] { ts := [2, 3, 4, 9], os := [1, 2] } [] gamOK hT h (by kernel_rfl) trivial fun a w h => then_normal ?_
 refine at_test (!decide (x0.1 = x1.1)) h (by kernel_rfl) (fun h1 => ?_) (fun h1 => ?_)
 ·replace h1 : ¬ (x0.1 = x1.1) := of_decide_eq_false (notT h1)
  refine wp_seq ?_
  refine at_regq [] { ts := [2, 3, 4], os := [1, 2] } [] gamOK hT h (by kernel_rfl) trivial fun a w h => then_normal (wp_ret (then_ret ?_))
  exact at_return (false, ()) [] h (by kernel_rfl) trivial (congrArg (fun z => (z, ())) (show (false) = (Sh.eqB s34) x0 x1 from by exact (Sh.eqB_ne (s := s34) (fun e => h1 (congrArg (fun (y : T34) => y.1) e))).symm))
 ·replace h1 : x0.1 = x1.1 := of_decide_eq_true (notF h1)
  refine wp_skip (then_normal (wp_seq (wp_seq ?_)))
  refine at_regq [] { ts := [2, 3, 4, 14], os := [1, 2] } [] gamOK hT h (by kernel_rfl) trivial fun a w h => then_normal ?_
  refine at_test (!decide (x0.2.1 = x1.2.1)) h (by kernel_rfl) (fun h2 => ?_) (fun h2 => ?_)
  ·replace h2 : ¬ (x0.2.1 = x1.2.1) := of_decide_eq_false (notT h2)
   refine wp_seq ?_
   refine at_regq [] { ts := [2, 3, 4], os := [1, 2] } [] gamOK hT h (by kernel_rfl) trivial fun a w h => then_normal (wp_ret (then_ret ?_))
   exact at_return (false, ()) [] h (by kernel_rfl) trivial (congrArg (fun z => (z, ())) (show (false) = (Sh.eqB s34) x0 x1 from by exact (Sh.eqB_ne (s := s34) (fun e => h2 (congrArg (fun (y : T34) => y.2.1) e))).symm))
  ·replace h2 : x0.2.1 = x1.2.1 := of_decide_eq_true (notF h2)
   refine wp_skip (then_normal (wp_seq (wp_seq ?_)))
   refine at_regq [] { ts := [2, 3, 4, 20], os := [1, 2] } [True] gamOK hT h (by kernel_rfl) ⟨trivial, trivial⟩ fun a w h => then_normal ?_
   refine at_test (!((Sh.eqB s22) x0.2.2.1 x1.2.2.1)) h (by kernel_rfl) (fun h3 => ?_) (fun h3 => ?_)
   ·replace h3 : ((Sh.eqB s22) x0.2.2.1 x1.2.2.1) = false := notT h3
    refine wp_seq ?_
    refine at_regq [] { ts := [2, 3, 4], os := [1, 2] } [] gamOK hT h (by kernel_rfl) trivial fun a w h => then_normal (wp_ret (then_ret ?_))
    exact at_return (false, ()) [] h (by kernel_rfl) trivial (congrArg (fun z => (z, ())) (show (false) = (Sh.eqB s34) x0 x1 from by exact (Sh.eqB_ne (s := s34) (fun e => Sh.of_eqB_ne h3 (congrArg (fun (y : T34) => y.2.2.1) e))).symm))
   ·replace h3 : ((Sh.eqB s22) x0.2.2.1 x1.2.2.1) = true := notF h3
    refine wp_skip (then_normal (wp_seq (wp_seq ?_)))
    refine at_regq [] { ts := [2, 3, 4, 26], os := [1, 2] } [True] gamOK hT h (by kernel_rfl) ⟨trivial, trivial⟩ fun a w h => then_normal ?_
    refine at_test (!((Sh.eqB s31) x0.2.2.2.1 x1.2.2.2.1)) h (by kernel_rfl) (fun h4 => ?_) (fun h4 => ?_)
    ·replace h4 : ((Sh.eqB s31) x0.2.2.2.1 x1.2.2.2.1) = false := notT h4
     refine wp_seq ?_
     refine at_regq [] { ts := [2, 3, 4], os := [1, 2] } [] gamOK hT h (by kernel_rfl) trivial fun a w h => then_normal (wp_ret (then_ret ?_))
     exact at_return (false, ()) [] h (by kernel_rfl) trivial (congrArg (fun z => (z, ())) (show (false) = (Sh.eqB s34) x0 x1 from by exact (Sh.eqB_ne (s := s34) (fun e => Sh.of_eqB_ne h4 (congrArg (fun (y : T34) => y.2.2.2.1) e))).symm))
    ·replace h4 : ((Sh.eqB s31) x0.2.2.2.1 x1.2.2.2.1) = true := notF h4
     refine wp_skip (then_normal (wp_seq (wp_seq ?_)))
     refine at_regq [] { ts := [2, 3, 4, 32], os := [1, 2] } [True] gamOK hT h (by kernel_rfl) ⟨trivial, trivial⟩ fun a w h => then_normal ?_
     refine at_test (!((Sh.eqB s32) x0.2.2.2.2.1 x1.2.2.2.2.1)) h (by kernel_rfl) (fun h5 => ?_) (fun h5 => ?_)
     ·replace h5 : ((Sh.eqB s32) x0.2.2.2.2.1 x1.2.2.2.2.1) = false := notT h5
      refine wp_seq ?_
      refine at_regq [] { ts := [2, 3, 4], os := [1, 2] } [] gamOK hT h (by kernel_rfl) trivial fun a w h => then_normal (wp_ret (then_ret ?_))
      exact at_return (false, ()) [] h (by kernel_rfl) trivial (congrArg (fun z => (z, ())) (show (false) = (Sh.eqB s34) x0 x1 from by exact (Sh.eqB_ne (s := s34) (fun e => Sh.of_eqB_ne h5 (congrArg (fun (y : T34) => y.2.2.2.2.1) e))).symm))
     ·replace h5 : ((Sh.eqB s32) x0.2.2.2.2.1 x1.2.2.2.2.1) = true := notF h5
      refine wp_skip (then_normal (wp_seq (wp_seq ?_)))
      refine at_regq [] { ts := [4, 37], os := [] } [] gamOK hT h (by kernel_rfl) trivial fun a w h => then_normal ?_
      refine at_test (!decide (x0.2.2.2.2.2 = x1.2.2.2.2.2)) h (by kernel_rfl) (fun h6 => ?_) (fun h6 => ?_)
      ·replace h6 : ¬ (x0.2.2.2.2.2 = x1.2.2.2.2.2) := of_decide_eq_false (notT h6)
       refine wp_seq ?_
       refine at_regq [] { ts := [4], os := [] } [] gamOK hT h (by kernel_rfl) trivial fun a w h => then_normal (wp_ret (then_ret ?_))
       exact at_return (false, ()) [] h (by kernel_rfl) trivial (congrArg (fun z => (z, ())) (show (false) = (Sh.eqB s34) x0 x1 from by exact (Sh.eqB_ne (s := s34) (fun e => h6 (congrArg (fun (y : T34) => y.2.2.2.2.2) e))).symm))
      ·replace h6 : x0.2.2.2.2.2 = x1.2.2.2.2.2 := of_decide_eq_true (notF h6)
       refine wp_skip (then_normal (wp_seq ?_))
       refine at_regq [] { ts := [4], os := [] } [] gamOK hT h (by kernel_rfl) trivial fun a w h => then_normal (wp_ret ?_)
       exact at_return (true, ()) [] h (by kernel_rfl) trivial (congrArg (fun z => (z, ())) (show (true) = (Sh.eqB s34) x0 x1 from by exact ((Sh.eqB_iff s34).2 (Prod.ext h1 (Prod.ext h2 (Prod.ext (Sh.of_eqB h3) (Prod.ext (Sh.of_eqB h4) (Prod.ext (Sh.of_eqB h5) h6)))))).symm))

def S_laws_heldByteS : Sum := { fid := 12, dom := [s28, (.int 3)], cod := [(.int 3)], dp := true, fz := false, pre := fun x => (pMk s28) x.1 x.2.1, g := fun x => (((heldD s28) x.1 x.2.1), ()) }
def S_laws_heldByteS_tab : List (Nat × Sum) := []
theorem S_laws_heldByteS_ok : FnOK Tryz.prog 12 S_laws_heldByteS := by
 refine at_enter 22 (fun x => ⟨[(0, aF (.u8 5) x.1), (1, aI x.2.1)], []⟩) Tryz.func12 rfl (by kernel_rfl) (fun x => rfl) ?_
 rintro w0 Z0 ⟨x0, x1, u⟩ a w
 revert x0 x1
 intro (x0 : (List Int)) (x1 : Int) hpre hlens h
 replace hpre : (pMk s28) x0 x1 := hpre
 have hl1 : List.length x0 ≤ 9223372036854775807 := hlens.1.1
 have hu0 : u8L x0 := hlens.1.2
 have hT : TabOK Tryz.prog S_laws_heldByteS_tab := .nil
 have hp : 0 ≤ x1 ∧ x1 + ((Sh.ct s28 x0 : Nat) : Int) ≤ 4611686018427387904 := hpre
 have hct0 : Sh.ct s28 x0 = ctL (Sh.ct (.u8 5)) x0 := rfl
 refine wp_seq ?_
 refine at_regq [] { ts := [0, 1, 4], os := [] } [] gamOK hT h (by kernel_rfl) trivial fun a w h => then_normal (wp_seq (wp_seq ?_))
 refine at_regq [] { ts := [0, 1, 4, 5], os := [] } [] gamOK hT h (by kernel_rfl) trivial fun a w h => then_normal (wp_block ?_)
 replace h := at_out (σ' := ⟨[(0, aF (.u8 5) x0), (1, aI x1), (4, aI 0), (5, aI 0)], []⟩) { ts := [0, 1, 4, 5], os := [] } h (by kernel_rfl)
 refine at_loop (fun i : Nat => (⟨[(0, aF (.u8 5) x0), (1, aI (x1 + ((ctL (Sh.ct (.u8 5)) (List.take i x0) : Nat) : Int))), (4, aI 0), (5, aI ((i : Nat) : Int))], []⟩ : St)) (fun i => (i ≤ List.length x0 ∧ mkL (Sh.mk (.u8 5)) (Sh.ct (.u8 5)) x1 (x0.take i) = x0.take i)) (fun i => List.length x0 - i) (0) h (st_congr2 (fun (d0 : Int) (d1 : Int) => (⟨[(0, aF (.u8 5) x0), (1, aI d0), (4, aI 0), (5, aI d1)], []⟩ : St)) (show (x1 : Int) = (x1 + ((ctL (Sh.ct (.u8 5)) (List.take (0) x0) : Nat) : Int)) from by first | with_reducible rfl | (simp [ctL]) | rfl) (show (0 : Int) = (((0) : Nat) : Int) from by first | with_reducible rfl | (simp [ctL]) | rfl)) (by exact ⟨Nat.zero_le _, by simp [mkL]⟩) ?_
 intro i a w hok0 h
 refine wp_seq (wp_seq ?_)
 refine at_regq [] { ts := [0, 1, 4, 5, 9], os := [] } [] gamOK hT h (by kernel_rfl) trivial fun a w h => then_normal ?_
 refine at_test (decide (((i : Nat) : Int) < ((List.length x0 : Nat) : Int))) h (by kernel_rfl) (fun h1 => ?_) (fun h1 => ?_)
 ·replace h1 : ((i : Nat) : Int) < ((List.length x0 : Nat) : Int) := of_decide_eq_true h1
  have hat := ctL_at_le (c := Sh.ct (.u8 5)) (xs := x0) (z := 0) (i := i) (by omega)
  have hsu := ctL_take_succ (c := Sh.ct (.u8 5)) (xs := x0) (z := 0) (i := i) (by omega)
  have hci : Sh.ct (.u8 5) (x0.getD i 0) = 1 := rfl
  refine wp_skip (then_normal (wp_seq (wp_block (wp_seq (wp_seq ?_)))))
  refine at_regq [] { ts := [0, 1, 4, 5, 18], os := [] } [(0 : Int) ≤ ((i : Nat) : Int) ∧ ((i : Nat) : Int) < ((List.length x0 : Nat) : Int)] gamOK hT h (by kernel_rfl) ⟨(by refine ⟨?_, ?_⟩ <;> (first | omega | (simp only [lsA]; omega) | (simp <;> omega))), trivial⟩ fun a w h => then_normal ?_
  refine at_test (!decide ((x0.getD i 0) = IntKind.u8.wrap ((x1 + ((ctL (Sh.ct (.u8 5)) (List.take i x0) : Nat) : Int))))) h (by kernel_rfl) (fun h2 => ?_) (fun h2 => ?_)
  ·replace h2 : ¬ ((x0.getD i 0) = IntKind.u8.wrap ((x1 + ((ctL (Sh.ct (.u8 5)) (List.take i x0) : Nat) : Int)))) := of_decide_eq_false (notT h2)
   refine wp_seq ?_
   refine at_regq [] { ts := [0, 1, 4, 5], os := [] } [] gamOK hT h (by kernel_rfl) trivial fun a w h => then_normal (wp_ret (then_ret (in_ret (then_ret (then_ret (in_ret (then_ret ?_)))))))
   exact at_return ((-1), ()) [] h (by kernel_rfl) trivial (congrArg (fun z => (z, ())) (show ((-1)) = (heldD s28) x0 x1 from by refine (heldD_no (s := s28) (fun e => ?_)).symm; have e2 : IntKind.u8.wrap ((x1 + ((ctL (Sh.ct (.u8 5)) (List.take i x0) : Nat) : Int))) = (x0.getD i 0) := congrArg (fun (y : Int) => y) (mkL_get (z := 0) (i := i) e (by omega)); exact h2 e2.symm))
  ·replace h2 : (x0.getD i 0) = IntKind.u8.wrap ((x1 + ((ctL (Sh.ct (.u8 5)) (List.take i x0) : Nat) : Int))) := of_decide_eq_true (notF h2)
   refine wp_skip (then_normal ?_)
   refine at_regq [{}, { nw := true }] { ts := [0, 1, 4, 5], os := [] } [I64 ((x1 + ((ctL (Sh.ct (.u8 5)) (List.take i x0) : Nat) : Int)) + 1)] gamOK hT h (by kernel_rfl) ⟨⟨by first | omega | (simp only [lsA]; omega) | (simp <;> omega), by first | omega | (simp only [lsA]; omega) | (simp <;> omega)⟩, trivial⟩ fun a w h => in_normal (then_normal ?_)
   refine at_regq [{}, { nw := true }] { ts := [0, 1, 4, 5], os := [] } [I64 (((i : Nat) : Int) + 1)] gamOK hT h (by kernel_rfl) ⟨⟨by first | omega | (simp only [lsA]; omega) | (simp <;> omega), by first | omega | (simp only [lsA]; omega) | (simp <;> omega)⟩, trivial⟩ fun a w h => ?_
   replace h := at_out (σ' := ⟨[(0, aF (.u8 5) x0), (1, aI ((x1 + ((ctL (Sh.ct (.u8 5)) (List.take i x0) : Nat) : Int)) + 1)), (4, aI 0), (5, aI (((i : Nat) : Int) + 1))], []⟩) { ts := [0, 1, 4, 5], os := [] } h (by kernel_rfl)
   exact ⟨i + 1, at_eq h (st_congr2 (fun (d0 : Int) (d1 : Int) => (⟨[(0, aF (.u8 5) x0), (1, aI d0), (4, aI 0), (5, aI d1)], []⟩ : St)) (show ((x1 + ((ctL (Sh.ct (.u8 5)) (List.take i x0) : Nat) : Int)) + 1 : Int) = (x1 + ((ctL (Sh.ct (.u8 5)) (List.take (i + 1) x0) : Nat) : Int)) from by first | with_reducible rfl | (omega) | rfl) (show (((i : Nat) : Int) + 1 : Int) = (((i + 1) : Nat) : Int) from by first | with_reducible rfl | (omega) | rfl)), (by exact ⟨by omega, mkL_step (z := 0) (by omega) hok0.2 (h2).symm⟩), (by omega)⟩
 ·replace h1 : ¬ (((i : Nat) : Int) < ((List.length x0 : Nat) : Int)) := of_decide_eq_false h1
  refine wp_exit (then_exit (then_exit (in_hit (then_normal (wp_seq ?_)))))
  refine at_regq [] { ts := [4], os := [] } [] gamOK hT h (by kernel_rfl) trivial fun a w h => then_normal (wp_ret ?_)
  exact at_return ((x1 + ((ctL (Sh.ct (.u8 5)) (List.take i x0) : Nat) : Int)), ()) [] h (by kernel_rfl) trivial (congrArg (fun z => (z, ())) (show ((x1 + ((ctL (Sh.ct (.u8 5)) (List.take i x0) : Nat) : Int))) = (heldD s28) x0 x1 from by have e := hok0.2; rw [take_all (by omega)] at e; rw [heldD_pos (s := s28) e, hct0, take_all (by omega)]))

def S_laws_markByteS : Sum := { fid := 11, dom := [s28, (.int 3)], cod := [(.int 3)], dp := true, fz := false, pre := fun x => (pMk s28) x.1 x.2.1, g := fun x => (((mkK s28) x.1 x.2.1), ()), kinds := [.io, .rd], upd := fun x => ((Sh.mk s28) x.1 x.2.1, (x.2.1, ())) }
def S_laws_markByteS_tab : List (Nat × Sum) := []
theorem S_laws_markByteS_ok : FnOK Tryz.prog 11 S_laws_markByteS := by
 refine at_enterI 20 [1] [2] (fun us x => ⟨[(0, aS 1), (1, aI x.2.1)], [(1, oR (.u8 5) x.1), (2, oP 1 (S_laws_markByteS.hd us 0))]⟩) Tryz.func11 rfl (by kernel_rfl) (fun us x => rfl) ?_
 rintro w0 Z0 us ⟨x0, x1, u⟩ L a w
 revert x0 x1
 intro (x0 : (List Int)) (x1 : Int) hio hpre hlens h
 replace h : At w0 Z0 L 20 ⟨[(0, aS 1), (1, aI x1)], [(1, oR (.u8 5) x0), (2, oP 1 (S_laws_markByteS.hd us 0))]⟩ a w := h
 replace hpre : (pMk s28) x0 x1 := hpre
 have hl1 : List.length x0 ≤ 9223372036854775807 := hlens.1.1
 have hu0 : u8L x0 := hlens.1.2
 have hT : TabOK Tryz.prog S_laws_markByteS_tab := .nil
 have hp : 0 ≤ x1 ∧ x1 + ((Sh.ct s28 x0 : Nat) : Int) ≤ 4611686018427387904 := hpre
 have hct0 : Sh.ct s28 x0 = ctL (Sh.ct (.u8 5)) x0 := rfl
 refine wp_seq ?_
 refine at_regq [] { ts := [0, 1, 4], os := [1, 2] } [] gamOK hT h (by kernel_rfl) trivial fun a w h => then_normal (wp_seq (wp_seq ?_))
 refine at_regq [] { ts := [0, 1, 4, 5], os := [1, 2] } [] gamOK hT h (by kernel_rfl) trivial fun a w h => then_normal (wp_block ?_)
 replace h := at_out (σ' := ⟨[(0, aS 1), (1, aI x1), (4, aI 0), (5, aI 0)], [(1, oR (.u8 5) x0), (2, oP 1 (S_laws_markByteS.hd us 0))]⟩) { ts := [0, 1, 4, 5], os := [1, 2] } h (by kernel_rfl)
 refine at_loop (fun i : Nat => (⟨[(0, aS 1), (1, aI (x1 + ((ctL (Sh.ct (.u8 5)) (List.take i x0) : Nat) : Int))), (4, aI 0), (5, aI ((i : Nat) : Int))], [(1, oR (.u8 5) (mkAt (Sh.mk (.u8 5)) (Sh.ct (.u8 5)) x1 x0 i)), (2, oP 1 (S_laws_markByteS.hd us 0))]⟩ : St)) (fun i => i ≤ List.length x0) (fun i => List.length x0 - i) (0) h (st_congr3 (fun (d0 : List Int) (d1 : Int) (d2 : Int) => (⟨[(0, aS 1), (1, aI d1), (4, aI 0), (5, aI d2)], [(1, oR (.u8 5) d0), (2, oP 1 (S_laws_markByteS.hd us 0))]⟩ : St)) (show (x0 : List Int) = (mkAt (Sh.mk (.u8 5)) (Sh.ct (.u8 5)) x1 x0 (0)) from by first | with_reducible rfl | (first | exact mkAt_zero.symm | simp [ctL]) | rfl) (show (x1 : Int) = (x1 + ((ctL (Sh.ct (.u8 5)) (List.take (0) x0) : Nat) : Int)) from by first | with_reducible rfl | (first | exact mkAt_zero.symm | simp [ctL]) | rfl) (show (0 : Int) = (((0) : Nat) : Int) from by first | with_reducible rfl | (first | exact mkAt_zero.symm | simp [ctL]) | rfl)) (by omega) ?_
 intro i a w hok0 h
 refine wp_seq (wp_seq ?_)
 refine at_regq [] { ts := [0, 1, 4, 5, 9], os := [1, 2] } [] gamOK hT h (by kernel_rfl) trivial fun a w h => then_normal ?_
 refine at_test (decide (((i : Nat) : Int) < ((List.length (mkAt (Sh.mk (.u8 5)) (Sh.ct (.u8 5)) x1 x0 i) : Nat) : Int))) h (by kernel_rfl) (fun h1 => ?_) (fun h1 => ?_)
 ·replace h1 : ((i : Nat) : Int) < ((List.length (mkAt (Sh.mk (.u8 5)) (Sh.ct (.u8 5)) x1 x0 i) : Nat) : Int) := of_decide_eq_true h1
  have hml : List.length (mkAt (Sh.mk (.u8 5)) (Sh.ct (.u8 5)) x1 x0 i) = List.length x0 := mkAt_len
  rw [hml] at h1
  have hat := ctL_at_le (c := Sh.ct (.u8 5)) (xs := x0) (z := 0) (i := i) (by omega)
  have hsu := ctL_take_succ (c := Sh.ct (.u8 5)) (xs := x0) (z := 0) (i := i) (by omega)
  have hci : Sh.ct (.u8 5) (x0.getD i 0) = 1 := rfl
  have hge : List.getD (mkAt (Sh.mk (.u8 5)) (Sh.ct (.u8 5)) x1 x0 i) i 0 = (x0.getD i 0) := mkAt_get (by omega)
  refine wp_skip (then_normal (wp_seq (wp_block (wp_seq ?_))))
  refine at_regq [] { ts := [0, 1, 4, 5], os := [1, 2] } [(0 : Int) ≤ ((i : Nat) : Int) ∧ ((i : Nat) : Int) < ((List.length (mkAt (Sh.mk (.u8 5)) (Sh.ct (.u8 5)) x1 x0 i) : Nat) : Int), i < List.length (mkAt (Sh.mk (.u8 5)) (Sh.ct (.u8 5)) x1 x0 i), (0 : Int) ≤ IntKind.u8.wrap ((x1 + ((ctL (Sh.ct (.u8 5)) (List.take i x0) : Nat) : Int))) ∧ IntKind.u8.wrap ((x1 + ((ctL (Sh.ct (.u8 5)) (List.take i x0) : Nat) : Int))) < (256 : Int)] gamOK hT h (by kernel_rfl) ⟨(by refine ⟨?_, ?_⟩ <;> (first | omega | ((try simp only [hge, mkK]); omega) | (simp only [lsA, mkAt_len]; omega) | (simp; done) | (simp; omega))), (by first | omega | ((try simp only [hge, mkK]); omega) | (simp only [lsA, mkAt_len]; omega) | (simp; done) | (simp; omega)), (by first | exact u8_range _ | exact getD_u8 (by assumption) _ | (refine ⟨?_, ?_⟩ <;> (first | omega | ((try simp only [hge, mkK]); omega) | (simp only [lsA, mkAt_len]; omega) | (simp; done) | (simp; omega)))), trivial⟩ fun a w h => then_normal ?_
  refine at_regq [{}, { nw := true }] { ts := [0, 1, 4, 5], os := [1, 2] } [I64 ((x1 + ((ctL (Sh.ct (.u8 5)) (List.take i x0) : Nat) : Int)) + 1)] gamOK hT h (by kernel_rfl) ⟨⟨by first | omega | ((try simp only [hge, mkK]); omega) | (simp only [lsA, mkAt_len]; omega) | (simp; done) | (simp; omega), by first | omega | ((try simp only [hge, mkK]); omega) | (simp only [lsA, mkAt_len]; omega) | (simp; done) | (simp; omega)⟩, trivial⟩ fun a w h => in_normal (then_normal ?_)
  refine at_regq [{}, { nw := true }] { ts := [0, 1, 4, 5], os := [1, 2] } [I64 (((i : Nat) : Int) + 1)] gamOK hT h (by kernel_rfl) ⟨⟨by first | omega | ((try simp only [hge, mkK]); omega) | (simp only [lsA, mkAt_len]; omega) | (simp; done) | (simp; omega), by first | omega | ((try simp only [hge, mkK]); omega) | (simp only [lsA, mkAt_len]; omega) | (simp; done) | (simp; omega)⟩, trivial⟩ fun a w h => ?_
  replace h := at_out (σ' := ⟨[(0, aS 1), (1, aI ((x1 + ((ctL (Sh.ct (.u8 5)) (List.take i x0) : Nat) : Int)) + 1)), (4, aI 0), (5, aI (((i : Nat) : Int) + 1))], [(1, oR (.u8 5) (List.set (mkAt (Sh.mk (.u8 5)) (Sh.ct (.u8 5)) x1 x0 i) i (IntKind.u8.wrap ((x1 + ((ctL (Sh.ct (.u8 5)) (List.take i x0) : Nat) : Int)))))), (2, oP 1 (S_laws_markByteS.hd us 0))]⟩) { ts := [0, 1, 4, 5], os := [1, 2] } h (by kernel_rfl)
  skip
  exact ⟨i + 1, at_eq h (st_congr3 (fun (d0 : List Int) (d1 : Int) (d2 : Int) => (⟨[(0, aS 1), (1, aI d1), (4, aI 0), (5, aI d2)], [(1, oR (.u8 5) d0), (2, oP 1 (S_laws_markByteS.hd us 0))]⟩ : St)) (show ((List.set (mkAt (Sh.mk (.u8 5)) (Sh.ct (.u8 5)) x1 x0 i) i (IntKind.u8.wrap ((x1 + ((ctL (Sh.ct (.u8 5)) (List.take i x0) : Nat) : Int))))) : List Int) = (mkAt (Sh.mk (.u8 5)) (Sh.ct (.u8 5)) x1 x0 (i + 1)) from by first | with_reducible rfl | (refine mkAt_set' (z := 0) (by omega) ?_; first | (simp only [hge, mkK]; done) | ((try simp only [hge, mkK]); show _ = Sh.mk (.u8 5) (x0.getD i 0) _; exact (congrArg IntKind.u8.wrap (by first | rfl | omega)))) | rfl) (show ((x1 + ((ctL (Sh.ct (.u8 5)) (List.take i x0) : Nat) : Int)) + 1 : Int) = (x1 + ((ctL (Sh.ct (.u8 5)) (List.take (i + 1) x0) : Nat) : Int)) from by first | with_reducible rfl | (((try simp only [hge, mkK]); omega)) | rfl) (show (((i : Nat) : Int) + 1 : Int) = (((i + 1) : Nat) : Int) from by first | with_reducible rfl | (omega) | rfl)), (by first | omega | (refine ⟨?_, ?_⟩ <;> omega)), (by omega)⟩
 ·replace h1 : ¬ (((i : Nat) : Int) < ((List.length (mkAt (Sh.mk (.u8 5)) (Sh.ct (.u8 5)) x1 x0 i) : Nat) : Int)) := of_decide_eq_false h1
  have hml : List.length (mkAt (Sh.mk (.u8 5)) (Sh.ct (.u8 5)) x1 x0 i) = List.length x0 := mkAt_len
  rw [hml] at h1
  refine wp_exit (then_exit (then_exit (in_hit (then_normal (wp_seq ?_)))))
  refine at_regq [] { ts := [4], os := [1, 2] } [] gamOK hT h (by kernel_rfl) trivial fun a w h => then_normal (wp_ret ?_)
  exact at_returnI (S := S_laws_markByteS) (x := (x0, x1, ())) [1] [2] ((mkAt (Sh.mk (.u8 5)) (Sh.ct (.u8 5)) x1 x0 i), (x1, ())) (some ((x1 + ((ctL (Sh.ct (.u8 5)) (List.take i x0) : Nat) : Int)), ())) [S_laws_markByteS.hd us 0 = S_laws_markByteS.hd us 0] hio h (by kernel_rfl) ⟨rfl, trivial⟩ (by first | rfl | exact congrArg (fun (z : (List Int)) => (z, (x1, ()))) (show ((mkAt (Sh.mk (.u8 5)) (Sh.ct (.u8 5)) x1 x0 i) : (List Int)) = (Sh.mk s28) x0 x1 from by exact mkAt_all (by omega))) (fun z e => (Option.some.inj e) ▸ (congrArg (fun z => (z, ())) (show ((x1 + ((ctL (Sh.ct (.u8 5)) (List.take i x0) : Nat) : Int))) = (mkK s28) x0 x1 from by (unfold mkK; rw [take_all (by omega)]; rfl))))

def S_laws_markIntS : Sum := { fid := 26, dom := [s22, (.int 3)], cod := [(.int 3)], dp := true, fz := false, pre := fun x => (pMk s22) x.1 x.2.1, g := fun x => (((mkK s22) x.1 x.2.1), ()), kinds := [.io, .rd], upd := fun x => ((Sh.mk s22) x.1 x.2.1, (x.2.1, ())) }
def S_laws_markIntS_tab : List (Nat × Sum) := []
theorem S_laws_markIntS_ok : FnOK Tryz.prog 26 S_laws_markIntS := by
 refine at_enterI 19 [1] [2] (fun us x => ⟨[(0, aS 1), (1, aI x.2.1)], [(1, oR (.int 3) x.1), (2, oP 1 (S_laws_markIntS.hd us 0))]⟩) Tryz.func26 rfl (by kernel_rfl) (fun us x => rfl) ?_
 rintro w0 Z0 us ⟨x0, x1, u⟩ L a w
 revert x0 x1
 intro (x0 : (List Int)) (x1 : Int) hio hpre hlens h
 replace h : At w0 Z0 L 19 ⟨[(0, aS 1), (1, aI x1)], [(1, oR (.int 3) x0), (2, oP 1 (S_laws_markIntS.hd us 0))]⟩ a w := h
 replace hpre : (pMk s22) x0 x1 := hpre
 have hl1 : List.length x0 ≤ 9223372036854775807 := hlens.1.1
 have hT : TabOK Tryz.prog S_laws_markIntS_tab := .nil
 have hp : 0 ≤ x1 ∧ x1 + ((Sh.ct s22 x0 : Nat) : Int) ≤ 4611686018427387904 := hpre
 have hct0 : Sh.ct s22 x0 = ctL (Sh.ct (.int 3)) x0 := rfl
 refine wp_seq ?_
 refine at_regq [] { ts := [0, 1, 4], os := [1, 2] } [] gamOK hT h (by kernel_rfl) trivial fun a w h => then_normal (wp_seq (wp_seq ?_))
 refine at_regq [] { ts := [0, 1, 4, 5], os := [1, 2] } [] gamOK hT h (by kernel_rfl) trivial fun a w h => then_normal (wp_block ?_)
 replace h := at_out (σ' := ⟨[(0, aS 1), (1, aI x1), (4, aI 0), (5, aI 0)], [(1, oR (.int 3) x0), (2, oP 1 (S_laws_markIntS.hd us 0))]⟩) { ts := [0, 1, 4, 5], os := [1, 2] } h (by kernel_rfl)
 refine at_loop (fun i : Nat => (⟨[(0, aS 1), (1, aI (x1 + ((ctL (Sh.ct (.int 3)) (List.take i x0) : Nat) : Int))), (4, aI 0), (5, aI ((i : Nat) : Int))], [(1, oR (.int 3) (mkAt (Sh.mk (.int 3)) (Sh.ct (.int 3)) x1 x0 i)), (2, oP 1 (S_laws_markIntS.hd us 0))]⟩ : St)) (fun i => i ≤ List.length x0) (fun i => List.length x0 - i) (0) h (st_congr3 (fun (d0 : List Int) (d1 : Int) (d2 : Int) => (⟨[(0, aS 1), (1, aI d1), (4, aI 0), (5, aI d2)], [(1, oR (.int 3) d0), (2, oP 1 (S_laws_markIntS.hd us 0))]⟩ : St)) (show (x0 : List Int) = (mkAt (Sh.mk (.int 3)) (Sh.ct (.int 3)) x1 x0 (0)) from by first | with_reducible rfl | (first | exact mkAt_zero.symm | simp [ctL]) | rfl) (show (x1 : Int) = (x1 + ((ctL (Sh.ct (.int 3)) (List.take (0) x0) : Nat) : Int)) from by first | with_reducible rfl | (first | exact mkAt_zero.symm | simp [ctL]) | rfl) (show (0 : Int) = (((0) : Nat) : Int) from by first | with_reducible rfl | (first | exact mkAt_zero.symm | simp [ctL]) | rfl)) (by omega) ?_
 intro i a w hok0 h
 refine wp_seq (wp_seq ?_)
 refine at_regq [] { ts := [0, 1, 4, 5, 9], os := [1, 2] } [] gamOK hT h (by kernel_rfl) trivial fun a w h => then_normal ?_
 refine at_test (decide (((i : Nat) : Int) < ((List.length (mkAt (Sh.mk (.int 3)) (Sh.ct (.int 3)) x1 x0 i) : Nat) : Int))) h (by kernel_rfl) (fun h1 => ?_) (fun h1 => ?_)
 ·replace h1 : ((i : Nat) : Int) < ((List.length (mkAt (Sh.mk (.int 3)) (Sh.ct (.int 3)) x1 x0 i) : Nat) : Int) := of_decide_eq_true h1
  have hml : List.length (mkAt (Sh.mk (.int 3)) (Sh.ct (.int 3)) x1 x0 i) = List.length x0 := mkAt_len
  rw [hml] at h1
  have hat := ctL_at_le (c := Sh.ct (.int 3)) (xs := x0) (z := 0) (i := i) (by omega)
  have hsu := ctL_take_succ (c := Sh.ct (.int 3)) (xs := x0) (z := 0) (i := i) (by omega)
  have hci : Sh.ct (.int 3) (x0.getD i 0) = 1 := rfl
  have hge : List.getD (mkAt (Sh.mk (.int 3)) (Sh.ct (.int 3)) x1 x0 i) i 0 = (x0.getD i 0) := mkAt_get (by omega)
  refine wp_skip (then_normal (wp_seq (wp_block (wp_seq ?_))))
  refine at_regq [] { ts := [0, 1, 4, 5], os := [1, 2] } [(0 : Int) ≤ ((i : Nat) : Int) ∧ ((i : Nat) : Int) < ((List.length (mkAt (Sh.mk (.int 3)) (Sh.ct (.int 3)) x1 x0 i) : Nat) : Int), i < List.length (mkAt (Sh.mk (.int 3)) (Sh.ct (.int 3)) x1 x0 i)] gamOK hT h (by kernel_rfl) ⟨(by refine ⟨?_, ?_⟩ <;> (first | omega | ((try simp only [hge, mkK]); omega) | (simp only [lsA, mkAt_len]; omega) | (simp; done) | (simp; omega))), (by first | omega | ((try simp only [hge, mkK]); omega) | (simp only [lsA, mkAt_len]; omega) | (simp; done) | (simp; omega)), trivial⟩ fun a w h => then_normal ?_
  refine at_regq [{}, { nw := true }] { ts := [0, 1, 4, 5], os := [1, 2] } [I64 ((x1 + ((ctL (Sh.ct (.int 3)) (List.take i x0) : Nat) : Int)) + 1)] gamOK hT h (by kernel_rfl) ⟨⟨by first | omega | ((try simp only [hge, mkK]); omega) | (simp only [lsA, mkAt_len]; omega) | (simp; done) | (simp; omega), by first | omega | ((try simp only [hge, mkK]); omega) | (simp only [lsA, mkAt_len]; omega) | (simp; done) | (simp; omega)⟩, trivial⟩ fun a w h => in_normal (then_normal ?_)
  refine at_regq [{}, { nw := true }] { ts := [0, 1, 4, 5], os := [1, 2] } [I64 (((i : Nat) : Int) + 1)] gamOK hT h (by kernel_rfl) ⟨⟨by first | omega | ((try simp only [hge, mkK]); omega) | (simp only [lsA, mkAt_len]; omega) | (simp; done) | (simp; omega), by first | omega | ((try simp only [hge, mkK]); omega) | (simp only [lsA, mkAt_len]; omega) | (simp; done) | (simp; omega)⟩, trivial⟩ fun a w h => ?_
  replace h := at_out (σ' := ⟨[(0, aS 1), (1, aI ((x1 + ((ctL (Sh.ct (.int 3)) (List.take i x0) : Nat) : Int)) + 1)), (4, aI 0), (5, aI (((i : Nat) : Int) + 1))], [(1, oR (.int 3) (List.set (mkAt (Sh.mk (.int 3)) (Sh.ct (.int 3)) x1 x0 i) i (x1 + ((ctL (Sh.ct (.int 3)) (List.take i x0) : Nat) : Int)))), (2, oP 1 (S_laws_markIntS.hd us 0))]⟩) { ts := [0, 1, 4, 5], os := [1, 2] } h (by kernel_rfl)
  skip
  exact ⟨i + 1, at_eq h (st_congr3 (fun (d0 : List Int) (d1 : Int) (d2 : Int) => (⟨[(0, aS 1), (1, aI d1), (4, aI 0), (5, aI d2)], [(1, oR (.int 3) d0), (2, oP 1 (S_laws_markIntS.hd us 0))]⟩ : St)) (show ((List.set (mkAt (Sh.mk (.int 3)) (Sh.ct (.int 3)) x1 x0 i) i (x1 + ((ctL (Sh.ct (.int 3)) (List.take i x0) : Nat) : Int))) : List Int) = (mkAt (Sh.mk (.int 3)) (Sh.ct (.int 3)) x1 x0 (i + 1)) from by first | with_reducible rfl | (refine mkAt_set' (z := 0) (by omega) ?_; first | (simp only [hge, mkK]; done) | ((try simp only [hge, mkK]); show _ = Sh.mk (.int 3) (x0.getD i 0) _; exact (by show (_ : Int) = _; first | rfl | omega))) | rfl) (show ((x1 + ((ctL (Sh.ct (.int 3)) (List.take i x0) : Nat) : Int)) + 1 : Int) = (x1 + ((ctL (Sh.ct (.int 3)) (List.take (i + 1) x0) : Nat) : Int)) from by first | with_reducible rfl | (((try simp only [hge, mkK]); omega)) | rfl) (show (((i : Nat) : Int) + 1 : Int) = (((i + 1) : Nat) : Int) from by first | with_reducible rfl | (omega) | rfl)), (by first | omega | (refine ⟨?_, ?_⟩ <;> omega)), (by omega)⟩
 ·replace h1 : ¬ (((i : Nat) : Int) < ((List.length (mkAt (Sh.mk (.int 3)) (Sh.ct (.int 3)) x1 x0 i) : Nat) : Int)) := of_decide_eq_false h1
  have hml : List.length (mkAt (Sh.mk (.int 3)) (Sh.ct (.int 3)) x1 x0 i) = List.length x0 := mkAt_len
  rw [hml] at h1
  refine wp_exit (then_exit (then_exit (in_hit (then_normal (wp_seq ?_)))))
  refine at_regq [] { ts := [4], os := [1, 2] } [] gamOK hT h (by kernel_rfl) trivial fun a w h => then_normal (wp_ret ?_)
  exact at_returnI (S := S_laws_markIntS) (x := (x0, x1, ())) [1] [2] ((mkAt (Sh.mk (.int 3)) (Sh.ct (.int 3)) x1 x0 i), (x1, ())) (some ((x1 + ((ctL (Sh.ct (.int 3)) (List.take i x0) : Nat) : Int)), ())) [S_laws_markIntS.hd us 0 = S_laws_markIntS.hd us 0] hio h (by kernel_rfl) ⟨rfl, trivial⟩ (by first | rfl | exact congrArg (fun (z : (List Int)) => (z, (x1, ()))) (show ((mkAt (Sh.mk (.int 3)) (Sh.ct (.int 3)) x1 x0 i) : (List Int)) = (Sh.mk s22) x0 x1 from by exact mkAt_all (by omega))) (fun z e => (Option.some.inj e) ▸ (congrArg (fun z => (z, ())) (show ((x1 + ((ctL (Sh.ct (.int 3)) (List.take i x0) : Nat) : Int))) = (mkK s22) x0 x1 from by (unfold mkK; rw [take_all (by omega)]; rfl))))

def S_laws_markIntSS : Sum := { fid := 42, dom := [s55, (.int 3)], cod := [(.int 3)], dp := true, fz := false, pre := fun x => (pMk s55) x.1 x.2.1, g := fun x => (((mkK s55) x.1 x.2.1), ()), kinds := [.io, .rd], upd := fun x => ((Sh.mk s55) x.1 x.2.1, (x.2.1, ())) }
def S_laws_markIntSS_tab : List (Nat × Sum) := [(26, S_laws_markIntS)]
theorem S_laws_markIntSS_ok : FnOK Tryz.prog 42 S_laws_markIntSS := by
 refine at_enterI 19 [1] [2] (fun us x => ⟨[(0, aS 1), (1, aI x.2.1)], [(1, oR s22 x.1), (2, oP 1 (S_laws_markIntSS.hd us 0))]⟩) Tryz.func42 rfl (by kernel_rfl) (fun us x => rfl) ?_
 rintro w0 Z0 us ⟨x0, x1, u⟩ L a w
 revert x0 x1
 intro (x0 : (List (List Int))) (x1 : Int) hio hpre hlens h
 replace h : At w0 Z0 L 19 ⟨[(0, aS 1), (1, aI x1)], [(1, oR s22 x0), (2, oP 1 (S_laws_markIntSS.hd us 0))]⟩ a w := h
 replace hpre : (pMk s55) x0 x1 := hpre
 have hl1 : List.length x0 ≤ 9223372036854775807 := hlens.1.1
 have hT : TabOK Tryz.prog S_laws_markIntSS_tab := (.cons S_laws_markIntS_ok .nil)
 have hp : 0 ≤ x1 ∧ x1 + ((Sh.ct s55 x0 : Nat) : Int) ≤ 4611686018427387904 := hpre
 have hct0 : Sh.ct s55 x0 = ctL (Sh.ct s22) x0 := rfl
 refine wp_seq ?_
 refine at_regq [] { ts := [0, 1, 4], os := [1, 2] } [] gamOK hT h (by kernel_rfl) trivial fun a w h => then_normal (wp_seq (wp_seq ?_))
 refine at_regq [] { ts := [0, 1, 4, 5], os := [1, 2] } [] gamOK hT h (by kernel_rfl) trivial fun a w h => then_normal (wp_block ?_)
 replace h := at_out (σ' := ⟨[(0, aS 1), (1, aI x1), (4, aI 0), (5, aI 0)], [(1, oR s22 x0), (2, oP 1 (S_laws_markIntSS.hd us 0))]⟩) { ts := [0, 1, 4, 5], os := [1, 2] } h (by kernel_rfl)
 refine at_loop (fun i : Nat => (⟨[(0, aS 1), (1, aI (x1 + ((ctL (Sh.ct s22) (List.take i x0) : Nat) : Int))), (4, aI 0), (5, aI ((i : Nat) : Int))], [(1, oR s22 (mkAt (Sh.mk s22) (Sh.ct s22) x1 x0 i)), (2, oP 1 (S_laws_markIntSS.hd us 0))]⟩ : St)) (fun i => i ≤ List.length x0) (fun i => List.length x0 - i) (0) h (st_congr3 (fun (d0 : List (List Int)) (d1 : Int) (d2 : Int) => (⟨[(0, aS 1), (1, aI d1), (4, aI 0), (5, aI d2)], [(1, oR s22 d0), (2, oP 1 (S_laws_markIntSS.hd us 0))]⟩ : St)) (show (x0 : List (List Int)) = (mkAt (Sh.mk s22) (Sh.ct s22) x1 x0 (0)) from by first | with_reducible rfl | (first | exact mkAt_zero.symm | simp [ctL]) | rfl) (show (x1 : Int) = (x1 + ((ctL (Sh.ct s22) (List.take (0) x0) : Nat) : Int)) from by first | with_reducible rfl | (first | exact mkAt_zero.symm | simp [ctL]) | rfl) (show (0 : Int) = (((0) : Nat) : Int) from by first | with_reducible rfl | (first | exact mkAt_zero.symm | simp [ctL]) | rfl)) (by omega) ?_
 intro i a w hok0 h
 refine wp_seq (wp_seq ?_)
 refine at_regq [] { ts := [0, 1, 4, 5, 9], os := [1, 2] } [] gamOK hT h (by kernel_rfl) trivial fun a w h => then_normal ?_
 refine at_test (decide (((i : Nat) : Int) < ((List.length (mkAt (Sh.mk s22) (Sh.ct s22) x1 x0 i) : Nat) : Int))) h (by kernel_rfl) (fun h1 => ?_) (fun h1 => ?_)
 ·replace h1 : ((i : Nat) : Int) < ((List.length (mkAt (Sh.mk s22) (Sh.ct s22) x1 x0 i) : Nat) : Int) := of_decide_eq_true h1
  have hml : List.length (mkAt (Sh.mk s22) (Sh.ct s22) x1 x0 i) = List.length x0 := mkAt_len
  rw [hml] at h1
  have hat := ctL_at_le (c := Sh.ct s22) (xs := x0) (z := []) (i := i) (by omega)
  have hsu := ctL_take_succ (c := Sh.ct s22) (xs := x0) (z := []) (i := i) (by omega)
  have hci : Sh.ct s22 (x0.getD i []) = (Sh.ct s22 (x0.getD i [])) := rfl
  have hge : List.getD (mkAt (Sh.mk s22) (Sh.ct s22) x1 x0 i) i [] = (x0.getD i []) := mkAt_get (by omega)
  refine wp_skip (then_normal (wp_seq (wp_block ?_)))
  replace h := at_open (σ' := ⟨[(0, aS 1), (1, aI (x1 + ((ctL (Sh.ct s22) (List.take i x0) : Nat) : Int))), (4, aI 0), (5, aI ((i : Nat) : Int)), (9, aB (decide (((i : Nat) : Int) < ((List.length (mkAt (Sh.mk s22) (Sh.ct s22) x1 x0 i) : Nat) : Int))))], [(1, some (.op s22 (mkAt (Sh.mk s22) (Sh.ct s22) x1 x0 i) i [.sl 3])), (2, oP 1 (S_laws_markIntSS.hd us 0)), (3, oR (.int 3) ((mkAt (Sh.mk s22) (Sh.ct s22) x1 x0 i).getD i []))]⟩) (ps := [i < List.length (mkAt (Sh.mk s22) (Sh.ct s22) x1 x0 i)]) 1 i [3] { ts := [0, 1, 4, 5, 9], os := [1, 2, 3] } h (by kernel_rfl) ⟨(by first | omega | ((try simp only [hge, mkK]); omega) | (simp only [lsA, mkAt_len]; omega) | (simp; done) | (simp; omega)), trivial⟩
  refine at_regq [] { ts := [0, 1, 4, 5], os := [1, 2, 3] } [(0 : Int) ≤ ((i : Nat) : Int) ∧ ((i : Nat) : Int) < ((List.length (mkAt (Sh.mk s22) (Sh.ct s22) x1 x0 i) : Nat) : Int), i = i, (pMk s22) ((mkAt (Sh.mk s22) (Sh.ct s22) x1 x0 i).getD i []) (x1 + ((ctL (Sh.ct s22) (List.take i x0) : Nat) : Int))] gamOK hT h (by kernel_rfl) ⟨(by refine ⟨?_, ?_⟩ <;> (first | omega | ((try simp only [hge, mkK]); omega) | (simp only [lsA, mkAt_len]; omega) | (simp; done) | (simp; omega))), rfl, (by (show (0 : Int) ≤ _ ∧ _ + ((Sh.ct _ _ : Nat) : Int) ≤ (4611686018427387904 : Int); (try simp only [hge, mkK]); constructor <;> omega)), trivial⟩ fun a w h => in_normal (then_normal ?_)
  refine at_regq [{}, { nw := true }] { ts := [0, 1, 4, 5], os := [1, 2, 3] } [I64 (((i : Nat) : Int) + 1)] gamOK hT h (by kernel_rfl) ⟨⟨by first | omega | ((try simp only [hge, mkK]); omega) | (simp only [lsA, mkAt_len]; omega) | (simp; done) | (simp; omega), by first | omega | ((try simp only [hge, mkK]); omega) | (simp only [lsA, mkAt_len]; omega) | (simp; done) | (simp; omega)⟩, trivial⟩ fun a w h => ?_
  replace h := at_shut (σ' := ⟨[(0, aS 1), (1, aI ((mkK s22) ((mkAt (Sh.mk s22) (Sh.ct s22) x1 x0 i).getD i []) (x1 + ((ctL (Sh.ct s22) (List.take i x0) : Nat) : Int)))), (4, aI 0), (5, aI (((i : Nat) : Int) + 1))], [(1, oR s22 (List.set (mkAt (Sh.mk s22) (Sh.ct s22) x1 x0 i) i ((Sh.mk s22) ((mkAt (Sh.mk s22) (Sh.ct s22) x1 x0 i).getD i []) (x1 + ((ctL (Sh.ct s22) (List.take i x0) : Nat) : Int))))), (2, oP 1 (S_laws_markIntSS.hd us 0))]⟩) (ps := []) 1 { ts := [0, 1, 4, 5], os := [1, 2] } h (by kernel_rfl) trivial
  replace h := at_out (σ' := ⟨[(0, aS 1), (1, aI ((mkK s22) ((mkAt (Sh.mk s22) (Sh.ct s22) x1 x0 i).getD i []) (x1 + ((ctL (Sh.ct s22) (List.take i x0) : Nat) : Int)))), (4, aI 0), (5, aI (((i : Nat) : Int) + 1))], [(1, oR s22 (List.set (mkAt (Sh.mk s22) (Sh.ct s22) x1 x0 i) i ((Sh.mk s22) ((mkAt (Sh.mk s22) (Sh.ct s22) x1 x0 i).getD i []) (x1 + ((ctL (Sh.ct s22) (List.take i x0) : Nat) : Int))))), (2, oP 1 (S_laws_markIntSS.hd us 0))]⟩) { ts := [0, 1, 4, 5], os := [1, 2] } h (by kernel_rfl)
  skip
  exact ⟨i + 1, at_eq h (st_congr3 (fun (d0 : List (List Int)) (d1 : Int) (d2 : Int) => (⟨[(0, aS 1), (1, aI d1), (4, aI 0), (5, aI d2)], [(1, oR s22 d0), (2, oP 1 (S_laws_markIntSS.hd us 0))]⟩ : St)) (show ((List.set (mkAt (Sh.mk s22) (Sh.ct s22) x1 x0 i) i ((Sh.mk s22) ((mkAt (Sh.mk s22) (Sh.ct s22) x1 x0 i).getD i []) (x1 + ((ctL (Sh.ct s22) (List.take i x0) : Nat) : Int)))) : List (List Int)) = (mkAt (Sh.mk s22) (Sh.ct s22) x1 x0 (i + 1)) from by first | with_reducible rfl | (refine mkAt_set' (z := []) (by omega) ?_; first | (simp only [hge, mkK]; done) | ((try simp only [hge, mkK]); show _ = Sh.mk s22 (x0.getD i []) _; exact (congrArg (fun k => Sh.mk s22 (x0.getD i []) k) (by first | rfl | omega)))) | rfl) (show (((mkK s22) ((mkAt (Sh.mk s22) (Sh.ct s22) x1 x0 i).getD i []) (x1 + ((ctL (Sh.ct s22) (List.take i x0) : Nat) : Int))) : Int) = (x1 + ((ctL (Sh.ct s22) (List.take (i + 1) x0) : Nat) : Int)) from by first | with_reducible rfl | (((try simp only [hge, mkK]); omega)) | rfl) (show (((i : Nat) : Int) + 1 : Int) = (((i + 1) : Nat) : Int) from by first | with_reducible rfl | (omega) | rfl)), (by first | omega | (refine ⟨?_, ?_⟩ <;> omega)), (by omega)⟩
 ·replace h1 : ¬ (((i : Nat) : Int) < ((List.length (mkAt (Sh.mk s22) (Sh.ct s22) x1 x0 i) : Nat) : Int)) := of_decide_eq_false h1
  have hml : List.length (mkAt (Sh.mk s22) (Sh.ct s22) x1 x0 i) = List.length x0 := mkAt_len
  rw [hml] at h1
  refine wp_exit (then_exit (then_exit (in_hit (then_normal (wp_seq ?_)))))
  refine at_regq [] { ts := [4], os := [1, 2] } [] gamOK hT h (by kernel_rfl) trivial fun a w h => then_normal (wp_ret ?_)
  exact at_returnI (S := S_laws_markIntSS) (x := (x0, x1, ())) [1] [2] ((mkAt (Sh.mk s22) (Sh.ct s22) x1 x0 i), (x1, ())) (some ((x1 + ((ctL (Sh.ct s22) (List.take i x0) : Nat) : Int)), ())) [S_laws_markIntSS.hd us 0 = S_laws_markIntSS.hd us 0] hio h (by kernel_rfl) ⟨rfl, trivial⟩ (by first | rfl | exact congrArg (fun (z : (List (List Int))) => (z, (x1, ()))) (show ((mkAt (Sh.mk s22) (Sh.ct s22) x1 x0 i) : (List (List Int))) = (Sh.mk s55) x0 x1 from by exact mkAt_all (by omega))) (fun z e => (Option.some.inj e) ▸ (congrArg (fun z => (z, ())) (show ((x1 + ((ctL (Sh.ct s22) (List.take i x0) : Nat) : Int))) = (mkK s55) x0 x1 from by (unfold mkK; rw [take_all (by omega)]; rfl))))

def S_laws_markDecoderS : Sum := { fid := 27, dom := [s31, (.int 3)], cod := [(.int 3)], dp := true, fz := false, pre := fun x => (pMk s31) x.1 x.2.1, g := fun x => (((mkK s31) x.1 x.2.1), ()), kinds := [.io, .rd], upd := fun x => ((Sh.mk s31) x.1 x.2.1, (x.2.1, ())) }
def S_laws_markDecoderS_tab : List (Nat × Sum) := [(42, S_laws_markIntSS)]
theorem S_laws_markDecoderS_ok : FnOK Tryz.prog 27 S_laws_markDecoderS := by
 refine at_enterI 50 [1] [2] (fun us x => ⟨[(0, aS 1), (1, aI x.2.1)], [(1, oR s69 x.1), (2, oP 1 (S_laws_markDecoderS.hd us 0))]⟩) Tryz.func27 rfl (by kernel_rfl) (fun us x => rfl) ?_
 rintro w0 Z0 us ⟨x0, x1, u⟩ L a w
 revert x0 x1
 intro (x0 : (List T69)) (x1 : Int) hio hpre hlens h
 replace h : At w0 Z0 L 50 ⟨[(0, aS 1), (1, aI x1)], [(1, oR s69 x0), (2, oP 1 (S_laws_markDecoderS.hd us 0))]⟩ a w := h
 replace hpre : (pMk s31) x0 x1 := hpre
 have hl1 : List.length x0 ≤ 9223372036854775807 := hlens.1.1
 have hT : TabOK Tryz.prog S_laws_markDecoderS_tab := (.cons S_laws_markIntSS_ok .nil)
 have hp : 0 ≤ x1 ∧ x1 + ((Sh.ct s31 x0 : Nat) : Int) ≤ 4611686018427387904 := hpre
 have hct0 : Sh.ct s31 x0 = ctL (Sh.ct s69) x0 := rfl
 refine wp_seq ?_
 refine at_regq [] { ts := [0, 1, 4], os := [1, 2] } [] gamOK hT h (by kernel_rfl) trivial fun a w h => then_normal (wp_seq (wp_seq ?_))
 refine at_regq [] { ts := [0, 1, 4, 5], os := [1, 2] } [] gamOK hT h (by kernel_rfl) trivial fun a w h => then_normal (wp_block ?_)
 replace h := at_out (σ' := ⟨[(0, aS 1), (1, aI x1), (4, aI 0), (5, aI 0)], [(1, oR s69 x0), (2, oP 1 (S_laws_markDecoderS.hd us 0))]⟩) { ts := [0, 1, 4, 5], os := [1, 2] } h (by kernel_rfl)
 refine at_loop (fun i : Nat => (⟨[(0, aS 1), (1, aI (x1 + ((ctL (Sh.ct s69) (List.take i x0) : Nat) : Int))), (4, aI 0), (5, aI ((i : Nat) : Int))], [(1, oR s69 (mkAt (Sh.mk s69) (Sh.ct s69) x1 x0 i)), (2, oP 1 (S_laws_markDecoderS.hd us 0))]⟩ : St)) (fun i => i ≤ List.length x0) (fun i => List.length x0 - i) (0) h (st_congr3 (fun (d0 : List T69) (d1 : Int) (d2 : Int) => (⟨[(0, aS 1), (1, aI d1), (4, aI 0), (5, aI d2)], [(1, oR s69 d0), (2, oP 1 (S_laws_markDecoderS.hd us 0))]⟩ : St)) (show (x0 : List T69) = (mkAt (Sh.mk s69) (Sh.ct s69) x1 x0 (0)) from by first | with_reducible rfl | (first | exact mkAt_zero.symm | simp [ctL]) | rfl) (show (x1 : Int) = (x1 + ((ctL (Sh.ct s69) (List.take (0) x0) : Nat) : Int)) from by first | with_reducible rfl | (first | exact mkAt_zero.symm | simp [ctL]) | rfl) (show (0 : Int) = (((0) : Nat) : Int) from by first | with_reducible rfl | (first | exact mkAt_zero.symm | simp [ctL]) | rfl)) (by omega) ?_
 intro i a w hok0 h
 refine wp_seq (wp_seq ?_)
 refine at_regq [] { ts := [0, 1, 4, 5, 9], os := [1, 2] } [] gamOK hT h (by kernel_rfl) trivial fun a w h => then_normal ?_
 refine at_test (decide (((i : Nat) : Int) < ((List.length (mkAt (Sh.mk s69) (Sh.ct s69) x1 x0 i) : Nat) : Int))) h (by kernel_rfl) (fun h1 => ?_) (fun h1 => ?_)
 ·replace h1 : ((i : Nat) : Int) < ((List.length (mkAt (Sh.mk s69) (Sh.ct s69) x1 x0 i) : Nat) : Int) := of_decide_eq_true h1
  have hml : List.length (mkAt (Sh.mk s69) (Sh.ct s69) x1 x0 i) = List.length x0 := mkAt_len
  rw [hml] at h1
  have hat := ctL_at_le (c := Sh.ct s69) (xs := x0) (z := (0, (0, (0, (0, []))))) (i := i) (by omega)
  have hsu := ctL_take_succ (c := Sh.ct s69) (xs := x0) (z := (0, (0, (0, (0, []))))) (i := i) (by omega)
  have hci : Sh.ct s69 (x0.getD i (0, (0, (0, (0, []))))) = (1 + (1 + (1 + (1 + (Sh.ct s55 (x0.getD i (0, (0, (0, (0, []))))).2.2.2.2))))) := rfl
  have hge : List.getD (mkAt (Sh.mk s69) (Sh.ct s69) x1 x0 i) i (0, (0, (0, (0, [])))) = (x0.getD i (0, (0, (0, (0, []))))) := mkAt_get (by omega)
  refine wp_skip (then_normal (wp_seq (wp_block (wp_seq ?_))))
  replace h := at_open (σ' := ⟨[(0, aS 1), (1, aI (x1 + ((ctL (Sh.ct s69) (List.take i x0) : Nat) : Int))), (4, aI 0), (5, aI ((i : Nat) : Int)), (9, aB (decide (((i : Nat) : Int) < ((List.length (mkAt (Sh.mk s69) (Sh.ct s69) x1 x0 i) : Nat) : Int))))], [(1, some (.op s69 (mkAt (Sh.mk s69) (Sh.ct s69) x1 x0 i) i [cI ((mkAt (Sh.mk s69) (Sh.ct s69) x1 x0 i).getD i (0, (0, (0, (0, []))))).1, cI ((mkAt (Sh.mk s69) (Sh.ct s69) x1 x0 i).getD i (0, (0, (0, (0, []))))).2.1, cI ((mkAt (Sh.mk s69) (Sh.ct s69) x1 x0 i).getD i (0, (0, (0, (0, []))))).2.2.1, cI ((mkAt (Sh.mk s69) (Sh.ct s69) x1 x0 i).getD i (0, (0, (0, (0, []))))).2.2.2.1, .sl 3])), (2, oP 1 (S_laws_markDecoderS.hd us 0)), (3, oR s22 ((mkAt (Sh.mk s69) (Sh.ct s69) x1 x0 i).getD i (0, (0, (0, (0, []))))).2.2.2.2)]⟩) (ps := [i < List.length (mkAt (Sh.mk s69) (Sh.ct s69) x1 x0 i)]) 1 i [3] { ts := [0, 1, 4, 5, 9], os := [1, 2, 3] } h (by kernel_rfl) ⟨(by first | omega | ((try simp only [hge, mkK]); omega) | (simp only [lsA, mkAt_len]; omega) | (simp; done) | (simp; omega)), trivial⟩
  refine at_regq [] { ts := [0, 1, 4, 5], os := [1, 2, 3] } [(0 : Int) ≤ ((i : Nat) : Int) ∧ ((i : Nat) : Int) < ((List.length (mkAt (Sh.mk s69) (Sh.ct s69) x1 x0 i) : Nat) : Int), i = i] gamOK hT h (by kernel_rfl) ⟨(by refine ⟨?_, ?_⟩ <;> (first | omega | ((try simp only [hge, mkK]); omega) | (simp only [lsA, mkAt_len]; omega) | (simp; done) | (simp; omega))), rfl, trivial⟩ fun a w h => then_normal (wp_seq ?_)
  refine at_regq [{}, { nw := true }] { ts := [0, 1, 4, 5], os := [1, 2, 3] } [I64 ((x1 + ((ctL (Sh.ct s69) (List.take i x0) : Nat) : Int)) + 1)] gamOK hT h (by kernel_rfl) ⟨⟨by first | omega | ((try simp only [hge, mkK]); omega) | (simp only [lsA, mkAt_len]; omega) | (simp; done) | (simp; omega), by first | omega | ((try simp only [hge, mkK]); omega) | (simp only [lsA, mkAt_len]; omega) | (simp; done) | (simp; omega)⟩, trivial⟩ fun a w h => then_normal (wp_seq ?_)
  refine at_regq [] { ts := [0, 1, 4, 5], os := [1, 2, 3] } [(0 : Int) ≤ ((i : Nat) : Int) ∧ ((i : Nat) : Int) < ((List.length (mkAt (Sh.mk s69) (Sh.ct s69) x1 x0 i) : Nat) : Int), i = i] gamOK hT h (by kernel_rfl) ⟨(by refine ⟨?_, ?_⟩ <;> (first | omega | ((try simp only [hge, mkK]); omega) | (simp only [lsA, mkAt_len]; omega) | (simp; done) | (simp; omega))), rfl, trivial⟩ fun a w h => then_normal (wp_seq ?_)
  refine at_regq [{}, { nw := true }] { ts := [0, 1, 4, 5], os := [1, 2, 3] } [I64 (((x1 + ((ctL (Sh.ct s69) (List.take i x0) : Nat) : Int)) + 1) + 1)] gamOK hT h (by kernel_rfl) ⟨⟨by first | omega | ((try simp only [hge, mkK]); omega) | (simp only [lsA, mkAt_len]; omega) | (simp; done) | (simp; omega), by first | omega | ((try simp only [hge, mkK]); omega) | (simp only [lsA, mkAt_len]; omega) | (simp; done) | (simp; omega)⟩, trivial⟩ fun a w h => then_normal (wp_seq ?_)
  refine at_regq [] { ts := [0, 1, 4, 5], os := [1, 2, 3] } [(0 : Int) ≤ ((i : Nat) : Int) ∧ ((i : Nat) : Int) < ((List.length (mkAt (Sh.mk s69) (Sh.ct s69) x1 x0 i) : Nat) : Int), i = i] gamOK hT h (by kernel_rfl) ⟨(by refine ⟨?_, ?_⟩ <;> (first | omega | ((try simp only [hge, mkK]); omega) | (simp only [lsA, mkAt_len]; omega) | (simp; done) | (simp; omega))), rfl, trivial⟩ fun a w h => then_normal (wp_seq ?_)
  refine at_regq [{}, { nw := true }] { ts := [0, 1, 4, 5], os := [1, 2, 3] } [I64 ((((x1 + ((ctL (Sh.ct s69) (List.take i x0) : Nat) : Int)) + 1) + 1) + 1)] gamOK hT h (by kernel_rfl) ⟨⟨by first | omega | ((try simp only [hge, mkK]); omega) | (simp only [lsA, mkAt_len]; omega) | (simp; done) | (simp; omega), by first | omega | ((try simp only [hge, mkK]); omega) | (simp only [lsA, mkAt_len]; omega) | (simp; done) | (simp; omega)⟩, trivial⟩ fun a w h => then_normal (wp_seq ?_)
  refine at_regq [] { ts := [0, 1, 4, 5], os := [1, 2, 3] } [(0 : Int) ≤ ((i : Nat) : Int) ∧ ((i : Nat) : Int) < ((List.length (mkAt (Sh.mk s69) (Sh.ct s69) x1 x0 i) : Nat) : Int), i = i] gamOK hT h (by kernel_rfl) ⟨(by refine ⟨?_, ?_⟩ <;> (first | omega | ((try simp only [hge, mkK]); omega) | (simp only [lsA, mkAt_len]; omega) | (simp; done) | (simp; omega))), rfl, trivial⟩ fun a w h => then_normal (wp_seq ?_)
  refine at_regq [{}, { nw := true }] { ts := [0, 1, 4, 5], os := [1, 2, 3] } [I64 (((((x1 + ((ctL (Sh.ct s69) (List.take i x0) : Nat) : Int)) + 1) + 1) + 1) + 1)] gamOK hT h (by kernel_rfl) ⟨⟨by first | omega | ((try simp only [hge, mkK]); omega) | (simp only [lsA, mkAt_len]; omega) | (simp; done) | (simp; omega), by first | omega | ((try simp only [hge, mkK]); omega) | (simp only [lsA, mkAt_len]; omega) | (simp; done) | (simp; omega)⟩, trivial⟩ fun a w h => then_normal ?_
  refine at_regq [] { ts := [0, 1, 4, 5], os := [1, 2, 3] } [(0 : Int) ≤ ((i : Nat) : Int) ∧ ((i : Nat) : Int) < ((List.length (mkAt (Sh.mk s69) (Sh.ct s69) x1 x0 i) : Nat) : Int), i = i, (pMk s55) ((mkAt (Sh.mk s69) (Sh.ct s69) x1 x0 i).getD i (0, (0, (0, (0, []))))).2.2.2.2 (((((x1 + ((ctL (Sh.ct s69) (List.take i x0) : Nat) : Int)) + 1) + 1) + 1) + 1)] gamOK hT h (by kernel_rfl) ⟨(by refine ⟨?_, ?_⟩ <;> (first | omega | ((try simp only [hge, mkK]); omega) | (simp only [lsA, mkAt_len]; omega) | (simp; done) | (simp; omega))), rfl, (by (show (0 : Int) ≤ _ ∧ _ + ((Sh.ct _ _ : Nat) : Int) ≤ (4611686018427387904 : Int); (try simp only [hge, mkK]); constructor <;> omega)), trivial⟩ fun a w h => in_normal (then_normal ?_)
  refine at_regq [{}, { nw := true }] { ts := [0, 1, 4, 5], os := [1, 2, 3] } [I64 (((i : Nat) : Int) + 1)] gamOK hT h (by kernel_rfl) ⟨⟨by first | omega | ((try simp only [hge, mkK]); omega) | (simp only [lsA, mkAt_len]; omega) | (simp; done) | (simp; omega), by first | omega | ((try simp only [hge, mkK]); omega) | (simp only [lsA, mkAt_len]; omega) | (simp; done) | (simp; omega)⟩, trivial⟩ fun a w h => ?_
  replace h := at_shut (σ' := ⟨[(0, aS 1), (1, aI ((mkK s55) ((mkAt (Sh.mk s69) (Sh.ct s69) x1 x0 i).getD i (0, (0, (0, (0, []))))).2.2.2.2 (((((x1 + ((ctL (Sh.ct s69) (List.take i x0) : Nat) : Int)) + 1) + 1) + 1) + 1))), (4, aI 0), (5, aI (((i : Nat) : Int) + 1))], [(1, oR s69 (List.set (mkAt (Sh.mk s69) (Sh.ct s69) x1 x0 i) i ((x1 + ((ctL (Sh.ct s69) (List.take i x0) : Nat) : Int)), ((x1 + ((ctL (Sh.ct s69) (List.take i x0) : Nat) : Int)) + 1, (((x1 + ((ctL (Sh.ct s69) (List.take i x0) : Nat) : Int)) + 1) + 1, ((((x1 + ((ctL (Sh.ct s69) (List.take i x0) : Nat) : Int)) + 1) + 1) + 1, ((Sh.mk s55) ((mkAt (Sh.mk s69) (Sh.ct s69) x1 x0 i).getD i (0, (0, (0, (0, []))))).2.2.2.2 (((((x1 + ((ctL (Sh.ct s69) (List.take i x0) : Nat) : Int)) + 1) + 1) + 1) + 1)))))))), (2, oP 1 (S_laws_markDecoderS.hd us 0))]⟩) (ps := []) 1 { ts := [0, 1, 4, 5], os := [1, 2] } h (by kernel_rfl) trivial
  replace h := at_out (σ' := ⟨[(0, aS 1), (1, aI ((mkK s55) ((mkAt (Sh.mk s69) (Sh.ct s69) x1 x0 i).getD i (0, (0, (0, (0, []))))).2.2.2.2 (((((x1 + ((ctL (Sh.ct s69) (List.take i x0) : Nat) : Int)) + 1) + 1) + 1) + 1))), (4, aI 0), (5, aI (((i : Nat) : Int) + 1))], [(1, oR s69 (List.set (mkAt (Sh.mk s69) (Sh.ct s69) x1 x0 i) i ((x1 + ((ctL (Sh.ct s69) (List.take i x0) : Nat) : Int)), ((x1 + ((ctL (Sh.ct s69) (List.take i x0) : Nat) : Int)) + 1, (((x1 + ((ctL (Sh.ct s69) (List.take i x0) : Nat) : Int)) + 1) + 1, ((((x1 + ((ctL (Sh.ct s69) (List.take i x0) : Nat) : Int)) + 1) + 1) + 1, ((Sh.mk s55) ((mkAt (Sh.mk s69) (Sh.ct s69) x1 x0 i).getD i (0, (0, (0, (0, []))))).2.2.2.2 (((((x1 + ((ctL (Sh.ct s69) (List.take i x0) : Nat) : Int)) + 1) + 1) + 1) + 1)))))))), (2, oP 1 (S_laws_markDecoderS.hd us 0))]⟩) { ts := [0, 1, 4, 5], os := [1, 2] } h (by kernel_rfl)
  skip
  exact ⟨i + 1, at_eq h (st_congr3 (fun (d0 : List T69) (d1 : Int) (d2 : Int) => (⟨[(0, aS 1), (1, aI d1), (4, aI 0), (5, aI d2)], [(1, oR s69 d0), (2, oP 1 (S_laws_markDecoderS.hd us 0))]⟩ : St)) (show ((List.set (mkAt (Sh.mk s69) (Sh.ct s69) x1 x0 i) i ((x1 + ((ctL (Sh.ct s69) (List.take i x0) : Nat) : Int)), ((x1 + ((ctL (Sh.ct s69) (List.take i x0) : Nat) : Int)) + 1, (((x1 + ((ctL (Sh.ct s69) (List.take i x0) : Nat) : Int)) + 1) + 1, ((((x1 + ((ctL (Sh.ct s69) (List.take i x0) : Nat) : Int)) + 1) + 1) + 1, ((Sh.mk s55) ((mkAt (Sh.mk s69) (Sh.ct s69) x1 x0 i).getD i (0, (0, (0, (0, []))))).2.2.2.2 (((((x1 + ((ctL (Sh.ct s69) (List.take i x0) : Nat) : Int)) + 1) + 1) + 1) + 1))))))) : List T69) = (mkAt (Sh.mk s69) (Sh.ct s69) x1 x0 (i + 1)) from by first | with_reducible rfl | (refine mkAt_set' (z := (0, (0, (0, (0, []))))) (by omega) ?_; first | (simp only [hge, mkK]; done) | ((try simp only [hge, mkK]); show _ = Sh.mk s69 (x0.getD i (0, (0, (0, (0, []))))) _; exact (Prod.ext (by show (_ : Int) = _; first | rfl | omega) (Prod.ext (by show (_ : Int) = _; first | rfl | omega) (Prod.ext (by show (_ : Int) = _; first | rfl | omega) (Prod.ext (by show (_ : Int) = _; first | rfl | omega) (congrArg (fun k => Sh.mk s55 (x0.getD i (0, (0, (0, (0, []))))).2.2.2.2 k) (by first | rfl | omega)))))))) | rfl) (show (((mkK s55) ((mkAt (Sh.mk s69) (Sh.ct s69) x1 x0 i).getD i (0, (0, (0, (0, []))))).2.2.2.2 (((((x1 + ((ctL (Sh.ct s69) (List.take i x0) : Nat) : Int)) + 1) + 1) + 1) + 1)) : Int) = (x1 + ((ctL (Sh.ct s69) (List.take (i + 1) x0) : Nat) : Int)) from by first | with_reducible rfl | (((try simp only [hge, mkK]); omega)) | rfl) (show (((i : Nat) : Int) + 1 : Int) = (((i + 1) : Nat) : Int) from by first | with_reducible rfl | (omega) | rfl)), (by first | omega | (refine ⟨?_, ?_⟩ <;> omega)), (by omega)⟩
 ·replace h1 : ¬ (((i : Nat) : Int) < ((List.length (mkAt (Sh.mk s69) (Sh.ct s69) x1 x0 i) : Nat) : Int)) := of_decide_eq_false h1
  have hml : List.length (mkAt (Sh.mk s69) (Sh.ct s69) x1 x0 i) = List.length x0 := mkAt_len
  rw [hml] at h1
  refine wp_exit (then_exit (then_exit (in_hit (then_normal (wp_seq ?_)))))
  refine at_regq [] { ts := [4], os := [1, 2] } [] gamOK hT h (by kernel_rfl) trivial fun a w h => then_normal (wp_ret ?_)
  exact at_returnI (S := S_laws_markDecoderS) (x := (x0, x1, ())) [1] [2] ((mkAt (Sh.mk s69) (Sh.ct s69) x1 x0 i), (x1, ())) (some ((x1 + ((ctL (Sh.ct s69) (List.take i x0) : Nat) : Int)), ())) [S_laws_markDecoderS.hd us 0 = S_laws_markDecoderS.hd us 0] hio h (by kernel_rfl) ⟨rfl, trivial⟩ (by first | rfl | exact congrArg (fun (z : (List T69)) => (z, (x1, ()))) (show ((mkAt (Sh.mk s69) (Sh.ct s69) x1 x0 i) : (List T69)) = (Sh.mk s31) x0 x1 from by exact mkAt_all (by omega))) (fun z e => (Option.some.inj e) ▸ (congrArg (fun z => (z, ())) (show ((x1 + ((ctL (Sh.ct s69) (List.take i x0) : Nat) : Int))) = (mkK s31) x0 x1 from by (unfold mkK; rw [take_all (by omega)]; rfl))))

def S_laws_markGenerationS : Sum := { fid := 28, dom := [s32, (.int 3)], cod := [(.int 3)], dp := true, fz := false, pre := fun x => (pMk s32) x.1 x.2.1, g := fun x => (((mkK s32) x.1 x.2.1), ()), kinds := [.io, .rd], upd := fun x => ((Sh.mk s32) x.1 x.2.1, (x.2.1, ())) }
def S_laws_markGenerationS_tab : List (Nat × Sum) := [(42, S_laws_markIntSS)]
theorem S_laws_markGenerationS_ok : FnOK Tryz.prog 28 S_laws_markGenerationS := by
 refine at_enterI 27 [1] [2] (fun us x => ⟨[(0, aS 1), (1, aI x.2.1)], [(1, oR s64 x.1), (2, oP 1 (S_laws_markGenerationS.hd us 0))]⟩) Tryz.func28 rfl (by kernel_rfl) (fun us x => rfl) ?_
 rintro w0 Z0 us ⟨x0, x1, u⟩ L a w
 revert x0 x1
 intro (x0 : (List T64)) (x1 : Int) hio hpre hlens h
 replace h : At w0 Z0 L 27 ⟨[(0, aS 1), (1, aI x1)], [(1, oR s64 x0), (2, oP 1 (S_laws_markGenerationS.hd us 0))]⟩ a w := h
 replace hpre : (pMk s32) x0 x1 := hpre
 have hl1 : List.length x0 ≤ 9223372036854775807 := hlens.1.1
 have hT : TabOK Tryz.prog S_laws_markGenerationS_tab := (.cons S_laws_markIntSS_ok .nil)
 have hp : 0 ≤ x1 ∧ x1 + ((Sh.ct s32 x0 : Nat) : Int) ≤ 4611686018427387904 := hpre
 have hct0 : Sh.ct s32 x0 = ctL (Sh.ct s64) x0 := rfl
 refine wp_seq ?_
 refine at_regq [] { ts := [0, 1, 4], os := [1, 2] } [] gamOK hT h (by kernel_rfl) trivial fun a w h => then_normal (wp_seq (wp_seq ?_))
 refine at_regq [] { ts := [0, 1, 4, 5], os := [1, 2] } [] gamOK hT h (by kernel_rfl) trivial fun a w h => then_normal (wp_block ?_)
 replace h := at_out (σ' := ⟨[(0, aS 1), (1, aI x1), (4, aI 0), (5, aI 0)], [(1, oR s64 x0), (2, oP 1 (S_laws_markGenerationS.hd us 0))]⟩) { ts := [0, 1, 4, 5], os := [1, 2] } h (by kernel_rfl)
 refine at_loop (fun i : Nat => (⟨[(0, aS 1), (1, aI (x1 + ((ctL (Sh.ct s64) (List.take i x0) : Nat) : Int))), (4, aI 0), (5, aI ((i : Nat) : Int))], [(1, oR s64 (mkAt (Sh.mk s64) (Sh.ct s64) x1 x0 i)), (2, oP 1 (S_laws_markGenerationS.hd us 0))]⟩ : St)) (fun i => i ≤ List.length x0) (fun i => List.length x0 - i) (0) h (st_congr3 (fun (d0 : List T64) (d1 : Int) (d2 : Int) => (⟨[(0, aS 1), (1, aI d1), (4, aI 0), (5, aI d2)], [(1, oR s64 d0), (2, oP 1 (S_laws_markGenerationS.hd us 0))]⟩ : St)) (show (x0 : List T64) = (mkAt (Sh.mk s64) (Sh.ct s64) x1 x0 (0)) from by first | with_reducible rfl | (first | exact mkAt_zero.symm | simp [ctL]) | rfl) (show (x1 : Int) = (x1 + ((ctL (Sh.ct s64) (List.take (0) x0) : Nat) : Int)) from by first | with_reducible rfl | (first | exact mkAt_zero.symm | simp [ctL]) | rfl) (show (0 : Int) = (((0) : Nat) : Int) from by first | with_reducible rfl | (first | exact mkAt_zero.symm | simp [ctL]) | rfl)) (by omega) ?_
 intro i a w hok0 h
 refine wp_seq (wp_seq ?_)
 refine at_regq [] { ts := [0, 1, 4, 5, 9], os := [1, 2] } [] gamOK hT h (by kernel_rfl) trivial fun a w h => then_normal ?_
 refine at_test (decide (((i : Nat) : Int) < ((List.length (mkAt (Sh.mk s64) (Sh.ct s64) x1 x0 i) : Nat) : Int))) h (by kernel_rfl) (fun h1 => ?_) (fun h1 => ?_)
 ·replace h1 : ((i : Nat) : Int) < ((List.length (mkAt (Sh.mk s64) (Sh.ct s64) x1 x0 i) : Nat) : Int) := of_decide_eq_true h1
  have hml : List.length (mkAt (Sh.mk s64) (Sh.ct s64) x1 x0 i) = List.length x0 := mkAt_len
  rw [hml] at h1
  have hat := ctL_at_le (c := Sh.ct s64) (xs := x0) (z := (0, [])) (i := i) (by omega)
  have hsu := ctL_take_succ (c := Sh.ct s64) (xs := x0) (z := (0, [])) (i := i) (by omega)
  have hci : Sh.ct s64 (x0.getD i (0, [])) = (1 + (Sh.ct s55 (x0.getD i (0, [])).2)) := rfl
  have hge : List.getD (mkAt (Sh.mk s64) (Sh.ct s64) x1 x0 i) i (0, []) = (x0.getD i (0, [])) := mkAt_get (by omega)
  refine wp_skip (then_normal (wp_seq (wp_block (wp_seq ?_))))
  replace h := at_open (σ' := ⟨[(0, aS 1), (1, aI (x1 + ((ctL (Sh.ct s64) (List.take i x0) : Nat) : Int))), (4, aI 0), (5, aI ((i : Nat) : Int)), (9, aB (decide (((i : Nat) : Int) < ((List.length (mkAt (Sh.mk s64) (Sh.ct s64) x1 x0 i) : Nat) : Int))))], [(1, some (.op s64 (mkAt (Sh.mk s64) (Sh.ct s64) x1 x0 i) i [cI ((mkAt (Sh.mk s64) (Sh.ct s64) x1 x0 i).getD i (0, [])).1, .sl 3])), (2, oP 1 (S_laws_markGenerationS.hd us 0)), (3, oR s22 ((mkAt (Sh.mk s64) (Sh.ct s64) x1 x0 i).getD i (0, [])).2)]⟩) (ps := [i < List.length (mkAt (Sh.mk s64) (Sh.ct s64) x1 x0 i)]) 1 i [3] { ts := [0, 1, 4, 5, 9], os := [1, 2, 3] } h (by kernel_rfl) ⟨(by first | omega | ((try simp only [hge, mkK]); omega) | (simp only [lsA, mkAt_len]; omega) | (simp; done) | (simp; omega)), trivial⟩
  refine at_regq [] { ts := [0, 1, 4, 5], os := [1, 2, 3] } [(0 : Int) ≤ ((i : Nat) : Int) ∧ ((i : Nat) : Int) < ((List.length (mkAt (Sh.mk s64) (Sh.ct s64) x1 x0 i) : Nat) : Int), i = i] gamOK hT h (by kernel_rfl) ⟨(by refine ⟨?_, ?_⟩ <;> (first | omega | ((try simp only [hge, mkK]); omega) | (simp only [lsA, mkAt_len]; omega) | (simp; done) | (simp; omega))), rfl, trivial⟩ fun a w h => then_normal (wp_seq ?_)
  refine at_regq [{}, { nw := true }] { ts := [0, 1, 4, 5], os := [1, 2, 3] } [I64 ((x1 + ((ctL (Sh.ct s64) (List.take i x0) : Nat) : Int)) + 1)] gamOK hT h (by kernel_rfl) ⟨⟨by first | omega | ((try simp only [hge, mkK]); omega) | (simp only [lsA, mkAt_len]; omega) | (simp; done) | (simp; omega), by first | omega | ((try simp only [hge, mkK]); omega) | (simp only [lsA, mkAt_len]; omega) | (simp; done) | (simp; omega)⟩, trivial⟩ fun a w h => then_normal ?_
  refine at_regq [] { ts := [0, 1, 4, 5], os := [1, 2, 3] } [(0 : Int) ≤ ((i : Nat) : Int) ∧ ((i : Nat) : Int) < ((List.length (mkAt (Sh.mk s64) (Sh.ct s64) x1 x0 i) : Nat) : Int), i = i, (pMk s55) ((mkAt (Sh.mk s64) (Sh.ct s64) x1 x0 i).getD i (0, [])).2 ((x1 + ((ctL (Sh.ct s64) (List.take i x0) : Nat) : Int)) + 1)] gamOK hT h (by kernel_rfl) ⟨(by refine ⟨?_, ?_⟩ <;> (first | omega | ((try simp only [hge, mkK]); omega) | (simp only [lsA, mkAt_len]; omega) | (simp; done) | (simp; omega))), rfl, (by (show (0 : Int) ≤ _ ∧ _ + ((Sh.ct _ _ : Nat) : Int) ≤ (4611686018427387904 : Int); (try simp only [hge, mkK]); constructor <;> omega)), trivial⟩ fun a w h => in_normal (then_normal ?_)
  refine at_regq [{}, { nw := true }] { ts := [0, 1, 4, 5], os := [1, 2, 3] } [I64 (((i : Nat) : Int) + 1)] gamOK hT h (by kernel_rfl) ⟨⟨by first | omega | ((try simp only [hge, mkK]); omega) | (simp only [lsA, mkAt_len]; omega) | (simp; done) | (simp; omega), by first | omega | ((try simp only [hge, mkK]); omega) | (simp only [lsA, mkAt_len]; omega) | (simp; done) | (simp; omega)⟩, trivial⟩ fun a w h => ?_
  replace h := at_shut (σ' := ⟨[(0, aS 1), (1, aI ((mkK s55) ((mkAt (Sh.mk s64) (Sh.ct s64) x1 x0 i).getD i (0, [])).2 ((x1 + ((ctL (Sh.ct s64) (List.take i x0) : Nat) : Int)) + 1))), (4, aI 0), (5, aI (((i : Nat) : Int) + 1))], [(1, oR s64 (List.set (mkAt (Sh.mk s64) (Sh.ct s64) x1 x0 i) i ((x1 + ((ctL (Sh.ct s64) (List.take i x0) : Nat) : Int)), ((Sh.mk s55) ((mkAt (Sh.mk s64) (Sh.ct s64) x1 x0 i).getD i (0, [])).2 ((x1 + ((ctL (Sh.ct s64) (List.take i x0) : Nat) : Int)) + 1))))), (2, oP 1 (S_laws_markGenerationS.hd us 0))]⟩) (ps := []) 1 { ts := [0, 1, 4, 5], os := [1, 2] } h (by kernel_rfl) trivial
  replace h := at_out (σ' := ⟨[(0, aS 1), (1, aI ((mkK s55) ((mkAt (Sh.mk s64) (Sh.ct s64) x1 x0 i).getD i (0, [])).2 ((x1 + ((ctL (Sh.ct s64) (List.take i x0) : Nat) : Int)) + 1))), (4, aI 0), (5, aI (((i : Nat) : Int) + 1))], [(1, oR s64 (List.set (mkAt (Sh.mk s64) (Sh.ct s64) x1 x0 i) i ((x1 + ((ctL (Sh.ct s64) (List.take i x0) : Nat) : Int)), ((Sh.mk s55) ((mkAt (Sh.mk s64) (Sh.ct s64) x1 x0 i).getD i (0, [])).2 ((x1 + ((ctL (Sh.ct s64) (List.take i x0) : Nat) : Int)) + 1))))), (2, oP 1 (S_laws_markGenerationS.hd us 0))]⟩) { ts := [0, 1, 4, 5], os := [1, 2] } h (by kernel_rfl)
  skip
  exact ⟨i + 1, at_eq h (st_congr3 (fun (d0 : List T64) (d1 : Int) (d2 : Int) => (⟨[(0, aS 1), (1, aI d1), (4, aI 0), (5, aI d2)], [(1, oR s64 d0), (2, oP 1 (S_laws_markGenerationS.hd us 0))]⟩ : St)) (show ((List.set (mkAt (Sh.mk s64) (Sh.ct s64) x1 x0 i) i ((x1 + ((ctL (Sh.ct s64) (List.take i x0) : Nat) : Int)), ((Sh.mk s55) ((mkAt (Sh.mk s64) (Sh.ct s64) x1 x0 i).getD i (0, [])).2 ((x1 + ((ctL (Sh.ct s64) (List.take i x0) : Nat) : Int)) + 1)))) : List T64) = (mkAt (Sh.mk s64) (Sh.ct s64) x1 x0 (i + 1)) from by first | with_reducible rfl | (refine mkAt_set' (z := (0, [])) (by omega) ?_; first | (simp only [hge, mkK]; done) | ((try simp only [hge, mkK]); show _ = Sh.mk s64 (x0.getD i (0, [])) _; exact (Prod.ext (by show (_ : Int) = _; first | rfl | omega) (congrArg (fun k => Sh.mk s55 (x0.getD i (0, [])).2 k) (by first | rfl | omega))))) | rfl) (show (((mkK s55) ((mkAt (Sh.mk s64) (Sh.ct s64) x1 x0 i).getD i (0, [])).2 ((x1 + ((ctL (Sh.ct s64) (List.take i x0) : Nat) : Int)) + 1)) : Int) = (x1 + ((ctL (Sh.ct s64) (List.take (i + 1) x0) : Nat) : Int)) from by first | with_reducible rfl | (((try simp only [hge, mkK]); omega)) | rfl) (show (((i : Nat) : Int) + 1 : Int) = (((i + 1) : Nat) : Int) from by first | with_reducible rfl | (omega) | rfl)), (by first | omega | (refine ⟨?_, ?_⟩ <;> omega)), (by omega)⟩
 ·replace h1 : ¬ (((i : Nat) : Int) < ((List.length (mkAt (Sh.mk s64) (Sh.ct s64) x1 x0 i) : Nat) : Int)) := of_decide_eq_false h1
  have hml : List.length (mkAt (Sh.mk s64) (Sh.ct s64) x1 x0 i) = List.length x0 := mkAt_len
  rw [hml] at h1
  refine wp_exit (then_exit (then_exit (in_hit (then_normal (wp_seq ?_)))))
  refine at_regq [] { ts := [4], os := [1, 2] } [] gamOK hT h (by kernel_rfl) trivial fun a w h => then_normal (wp_ret ?_)
  exact at_returnI (S := S_laws_markGenerationS) (x := (x0, x1, ())) [1] [2] ((mkAt (Sh.mk s64) (Sh.ct s64) x1 x0 i), (x1, ())) (some ((x1 + ((ctL (Sh.ct s64) (List.take i x0) : Nat) : Int)), ())) [S_laws_markGenerationS.hd us 0 = S_laws_markGenerationS.hd us 0] hio h (by kernel_rfl) ⟨rfl, trivial⟩ (by first | rfl | exact congrArg (fun (z : (List T64)) => (z, (x1, ()))) (show ((mkAt (Sh.mk s64) (Sh.ct s64) x1 x0 i) : (List T64)) = (Sh.mk s32) x0 x1 from by exact mkAt_all (by omega))) (fun z e => (Option.some.inj e) ▸ (congrArg (fun z => (z, ())) (show ((x1 + ((ctL (Sh.ct s64) (List.take i x0) : Nat) : Int))) = (mkK s32) x0 x1 from by (unfold mkK; rw [take_all (by omega)]; rfl))))

def S_laws_markSink : Sum := { fid := 10, dom := [s34, (.int 3)], cod := [(.int 3)], dp := true, fz := false, pre := fun x => (pMkT s34) x.1 x.2.1, g := fun x => (((mkKT s34) x.1 x.2.1), ()), kinds := [.io, .rd], upd := fun x => ((Sh.mkT s34) x.1 x.2.1, (x.2.1, ())) }
def S_laws_markSink_tab : List (Nat × Sum) := [(26, S_laws_markIntS), (27, S_laws_markDecoderS), (28, S_laws_markGenerationS)]
theorem S_laws_markSink_ok : FnOK Tryz.prog 10 S_laws_markSink := by
 refine at_enterI 18 [1, 2, 3] [4, 5, 6] (fun us x => ⟨[(0, aG [cI x.1.1, cI x.1.2.1, .sl 1, .sl 2, .sl 3, cI x.1.2.2.2.2.2]), (1, aI x.2.1)], [(1, oR (.int 3) x.1.2.2.1), (2, oR s69 x.1.2.2.2.1), (3, oR s64 x.1.2.2.2.2.1), (4, oP 1 (S_laws_markSink.hd us 0)), (5, oP 2 (S_laws_markSink.hd us 1)), (6, oP 3 (S_laws_markSink.hd us 2))]⟩) Tryz.func10 rfl (by kernel_rfl) (fun us x => rfl) ?_
 rintro w0 Z0 us ⟨x0, x1, u⟩ L a w
 revert x0 x1
 intro (x0 : T34) (x1 : Int) hio hpre hlens h
 replace h : At w0 Z0 L 18 ⟨[(0, aG [cI x0.1, cI x0.2.1, .sl 1, .sl 2, .sl 3, cI x0.2.2.2.2.2]), (1, aI x1)], [(1, oR (.int 3) x0.2.2.1), (2, oR s69 x0.2.2.2.1), (3, oR s64 x0.2.2.2.2.1), (4, oP 1 (S_laws_markSink.hd us 0)), (5, oP 2 (S_laws_markSink.hd us 1)), (6, oP 3 (S_laws_markSink.hd us 2))]⟩ a w := h
 replace hpre : (pMkT s34) x0 x1 := hpre
 have hl1 : List.length x0.2.2.1 ≤ 9223372036854775807 := hlens.1.2.2.1.1
 have hl2 : List.length x0.2.2.2.1 ≤ 9223372036854775807 := hlens.1.2.2.2.1.1
 have hl3 : List.length x0.2.2.2.2.1 ≤ 9223372036854775807 := hlens.1.2.2.2.2.1.1
 have hT : TabOK Tryz.prog S_laws_markSink_tab := (.cons S_laws_markIntS_ok (.cons S_laws_markDecoderS_ok (.cons S_laws_markGenerationS_ok .nil)))
 have hp : 0 ≤ x1 ∧ x1 + ((Sh.ctT s34 x0 : Nat) : Int) ≤ 4611686018427387904 := hpre
 have hct0 : Sh.ctT s34 x0 = (0 + (0 + ((Sh.ct s22 x0.2.2.1) + ((Sh.ct s31 x0.2.2.2.1) + ((Sh.ct s32 x0.2.2.2.2.1) + 0))))) := rfl
 refine wp_seq ?_
 refine at_regq [{ ids := [7] }] { ts := [1, 2, 4], os := [1, 2, 3, 4, 5, 6, 7] } [] gamOK hT h (by kernel_rfl) trivial fun a w h => then_normal (wp_seq ?_)
 refine at_regq [] { ts := [1, 2, 4], os := [1, 2, 3, 4, 5, 6, 7] } [(pMk s22) x0.2.2.1 x1] gamOK hT h (by kernel_rfl) ⟨(by (first | (show (0 : Int) ≤ _ ∧ _ + ((Sh.ct _ _ : Nat) : Int) ≤ (4611686018427387904 : Int); (try simp only [mkK, mkKT]); constructor <;> omega) | (show (0 : Int) ≤ _ ∧ _ + ((Sh.ctT _ _ : Nat) : Int) ≤ (4611686018427387904 : Int); (try simp only [mkK, mkKT]); constructor <;> omega))), trivial⟩ fun a w h => then_normal (wp_seq ?_)
 refine at_regq [] { ts := [1, 2, 4], os := [1, 2, 3, 4, 5, 6, 7] } [(pMk s31) x0.2.2.2.1 ((mkK s22) x0.2.2.1 x1)] gamOK hT h (by kernel_rfl) ⟨(by (first | (show (0 : Int) ≤ _ ∧ _ + ((Sh.ct _ _ : Nat) : Int) ≤ (4611686018427387904 : Int); (try simp only [mkK, mkKT]); constructor <;> omega) | (show (0 : Int) ≤ _ ∧ _ + ((Sh.ctT _ _ : Nat) : Int) ≤ (4611686018427387904 : Int); (try simp only [mkK, mkKT]); constructor <;> omega))), trivial⟩ fun a w h => then_normal (wp_seq ?_)
 refine at_regq [] { ts := [1, 4], os := [1, 2, 3, 4, 5, 6] } [(pMk s32) x0.2.2.2.2.1 ((mkK s31) x0.2.2.2.1 ((mkK s22) x0.2.2.1 x1))] gamOK hT h (by kernel_rfl) ⟨(by (first | (show (0 : Int) ≤ _ ∧ _ + ((Sh.ct _ _ : Nat) : Int) ≤ (4611686018427387904 : Int); (try simp only [mkK, mkKT]); constructor <;> omega) | (show (0 : Int) ≤ _ ∧ _ + ((Sh.ctT _ _ : Nat) : Int) ≤ (4611686018427387904 : Int); (try simp only [mkK, mkKT]); constructor <;> omega))), trivial⟩ fun a w h => then_normal (wp_seq ?_)
 refine at_regq [] { ts := [4], os := [1, 2, 3, 4, 5, 6] } [] gamOK hT h (by kernel_rfl) trivial fun a w h => then_normal (wp_ret ?_)
 exact at_returnI (S := S_laws_markSink) (x := (x0, x1, ())) [1, 2, 3] [4, 5, 6] ((x0.1, (x0.2.1, (((Sh.mk s22) x0.2.2.1 x1), (((Sh.mk s31) x0.2.2.2.1 ((mkK s22) x0.2.2.1 x1)), (((Sh.mk s32) x0.2.2.2.2.1 ((mkK s31) x0.2.2.2.1 ((mkK s22) x0.2.2.1 x1))), x0.2.2.2.2.2))))), (x1, ())) (some (((mkK s32) x0.2.2.2.2.1 ((mkK s31) x0.2.2.2.1 ((mkK s22) x0.2.2.1 x1))), ())) [S_laws_markSink.hd us 0 = S_laws_markSink.hd us 0, S_laws_markSink.hd us 1 = S_laws_markSink.hd us 1, S_laws_markSink.hd us 2 = S_laws_markSink.hd us 2] hio h (by kernel_rfl) ⟨rfl, rfl, rfl, trivial⟩ (by first | rfl | exact congrArg (fun (z : T34) => (z, (x1, ()))) (show ((x0.1, (x0.2.1, (((Sh.mk s22) x0.2.2.1 x1), (((Sh.mk s31) x0.2.2.2.1 ((mkK s22) x0.2.2.1 x1)), (((Sh.mk s32) x0.2.2.2.2.1 ((mkK s31) x0.2.2.2.1 ((mkK s22) x0.2.2.1 x1))), x0.2.2.2.2.2))))) : T34) = (Sh.mkT s34) x0 x1 from by show _ = Sh.mkT s34 x0 x1; exact (Prod.ext rfl (Prod.ext rfl (Prod.ext (congrArg (fun k => Sh.mk s22 x0.2.2.1 k) (show (_ : Int) = x1 + ((0 : Nat) : Int) + ((0 : Nat) : Int) from by first | rfl | ((try simp only [mkK, mkKT]); omega))) (Prod.ext (congrArg (fun k => Sh.mk s31 x0.2.2.2.1 k) (show (_ : Int) = x1 + ((0 : Nat) : Int) + ((0 : Nat) : Int) + (((Sh.ct s22 x0.2.2.1) : Nat) : Int) from by first | rfl | ((try simp only [mkK, mkKT]); omega))) (Prod.ext (congrArg (fun k => Sh.mk s32 x0.2.2.2.2.1 k) (show (_ : Int) = x1 + ((0 : Nat) : Int) + ((0 : Nat) : Int) + (((Sh.ct s22 x0.2.2.1) : Nat) : Int) + (((Sh.ct s31 x0.2.2.2.1) : Nat) : Int) from by first | rfl | ((try simp only [mkK, mkKT]); omega))) rfl))))))) (fun z e => (Option.some.inj e) ▸ (congrArg (fun z => (z, ())) (show (((mkK s32) x0.2.2.2.2.1 ((mkK s31) x0.2.2.2.1 ((mkK s22) x0.2.2.1 x1)))) = (mkKT s34) x0 x1 from by ((try simp only [mkK, mkKT]); omega))))

def S_laws_szIntS : Sum := { fid := 13, dom := [s22, (.int 3)], cod := [(.int 3)], dp := true, fz := false, pre := fun x => (pSz s22) x.1 x.2.1, g := fun x => (((szD s22) x.1 x.2.1), ()) }
def S_laws_szIntS_tab : List (Nat × Sum) := []
theorem S_laws_szIntS_ok : FnOK Tryz.prog 13 S_laws_szIntS := by
 refine at_enter 12 (fun x => ⟨[(0, aF (.int 3) x.1), (1, aI x.2.1)], []⟩) Tryz.func13 rfl (by kernel_rfl) (fun x => rfl) ?_
 rintro w0 Z0 ⟨x0, x1, u⟩ a w
 revert x0 x1
 intro (x0 : (List Int)) (x1 : Int) hpre hlens h
 replace hpre : (pSz s22) x0 x1 := hpre
 have hl1 : List.length x0 ≤ 9223372036854775807 := hlens.1.1
 have hT : TabOK Tryz.prog S_laws_szIntS_tab := .nil
 have hp : 0 ≤ x1 ∧ x1 ≤ 9223372036854775807 := hpre
 refine wp_seq ?_
 refine at_regq [] { ts := [0, 1, 4], os := [] } [] gamOK hT h (by kernel_rfl) trivial fun a w h => then_normal (wp_seq ?_)
 refine at_regq [{}, {}, {}, { nw := true }] { ts := [1, 4], os := [] } [I64 (x1 - ((List.length x0 : Nat) : Int))] gamOK hT h (by kernel_rfl) ⟨⟨by first | omega | (simp only [lsA]; omega) | (simp <;> omega), by first | omega | (simp only [lsA]; omega) | (simp <;> omega)⟩, trivial⟩ fun a w h => then_normal (wp_seq (wp_seq ?_))
 refine at_regq [] { ts := [1, 4, 10], os := [] } [] gamOK hT h (by kernel_rfl) trivial fun a w h => then_normal ?_
 refine at_test (decide (x1 - ((List.length x0 : Nat) : Int) < 0)) h (by kernel_rfl) (fun h1 => ?_) (fun h1 => ?_)
 ·replace h1 : x1 - ((List.length x0 : Nat) : Int) < 0 := of_decide_eq_true h1
  refine wp_seq ?_
  refine at_regq [] { ts := [1, 4], os := [] } [] gamOK hT h (by kernel_rfl) trivial fun a w h => then_normal (wp_ret (then_ret ?_))
  exact at_return ((-1), ()) [] h (by kernel_rfl) trivial (congrArg (fun z => (z, ())) (show ((-1)) = (szD s22) x0 x1 from by exact (szD_no (by rw [sz_flat (by rfl)]; omega)).symm))
 ·replace h1 : ¬ (x1 - ((List.length x0 : Nat) : Int) < 0) := of_decide_eq_false h1
  refine wp_skip (then_normal (wp_seq ?_))
  refine at_regq [] { ts := [4], os := [] } [] gamOK hT h (by kernel_rfl) trivial fun a w h => then_normal (wp_ret ?_)
  exact at_return (x1 - ((List.length x0 : Nat) : Int), ()) [] h (by kernel_rfl) trivial (congrArg (fun z => (z, ())) (show (x1 - ((List.length x0 : Nat) : Int)) = (szD s22) x0 x1 from by exact ((szD_ok (by rw [sz_flat (by rfl)]; omega)).trans (by rw [sz_flat (by rfl)])).symm))

def S_laws_szIntSS : Sum := { fid := 44, dom := [s55, (.int 3)], cod := [(.int 3)], dp := true, fz := false, pre := fun x => (pSz s55) x.1 x.2.1, g := fun x => (((szD s55) x.1 x.2.1), ()) }
def S_laws_szIntSS_tab : List (Nat × Sum) := [(13, S_laws_szIntS)]
theorem S_laws_szIntSS_ok : FnOK Tryz.prog 44 S_laws_szIntSS := by
 refine at_enter 27 (fun x => ⟨[(0, aF s22 x.1), (1, aI x.2.1)], []⟩) Tryz.func44 rfl (by kernel_rfl) (fun x => rfl) ?_
 rintro w0 Z0 ⟨x0, x1, u⟩ a w
 revert x0 x1
 intro (x0 : (List (List Int))) (x1 : Int) hpre hlens h
 replace hpre : (pSz s55) x0 x1 := hpre
 have hl1 : List.length x0 ≤ 9223372036854775807 := hlens.1.1
 have hT : TabOK Tryz.prog S_laws_szIntSS_tab := (.cons S_laws_szIntS_ok .nil)
 have hp : 0 ≤ x1 ∧ x1 ≤ 9223372036854775807 := hpre
 have hsz : Sh.sz s55 x0 = List.length x0 + ctL (Sh.sz s22) x0 := rfl
 refine wp_seq ?_
 refine at_regq [] { ts := [0, 1, 4], os := [] } [] gamOK hT h (by kernel_rfl) trivial fun a w h => then_normal (wp_seq ?_)
 refine at_regq [{}, {}, {}, { nw := true }] { ts := [0, 1, 4], os := [] } [I64 (x1 - ((List.length x0 : Nat) : Int))] gamOK hT h (by kernel_rfl) ⟨⟨by first | omega | (simp only [lsA]; omega) | (simp <;> omega), by first | omega | (simp only [lsA]; omega) | (simp <;> omega)⟩, trivial⟩ fun a w h => then_normal (wp_seq (wp_seq ?_))
 refine at_regq [] { ts := [0, 1, 4, 11], os := [] } [] gamOK hT h (by kernel_rfl) trivial fun a w h => then_normal ?_
 refine at_test (decide (x1 - ((List.length x0 : Nat) : Int) < 0)) h (by kernel_rfl) (fun h1 => ?_) (fun h1 => ?_)
 ·replace h1 : x1 - ((List.length x0 : Nat) : Int) < 0 := of_decide_eq_true h1
  refine wp_seq ?_
  refine at_regq [] { ts := [0, 1, 4], os := [] } [] gamOK hT h (by kernel_rfl) trivial fun a w h => then_normal (wp_ret (then_ret ?_))
  exact at_return ((-1), ()) [] h (by kernel_rfl) trivial (congrArg (fun z => (z, ())) (show ((-1)) = (szD s55) x0 x1 from by exact (szD_no (by omega)).symm))
 ·replace h1 : ¬ (x1 - ((List.length x0 : Nat) : Int) < 0) := of_decide_eq_false h1
  refine wp_skip (then_normal (wp_seq (wp_seq ?_)))
  refine at_regq [] { ts := [0, 1, 4, 5], os := [] } [] gamOK hT h (by kernel_rfl) trivial fun a w h => then_normal (wp_block ?_)
  replace h := at_out (σ' := ⟨[(0, aF s22 x0), (1, aI (x1 - ((List.length x0 : Nat) : Int))), (4, aI 0), (5, aI 0)], []⟩) { ts := [0, 1, 4, 5], os := [] } h (by kernel_rfl)
  refine at_loop (fun i : Nat => (⟨[(0, aF s22 x0), (1, aI (x1 - ((List.length x0 : Nat) : Int) - ((ctL (Sh.sz s22) (List.take i x0) : Nat) : Int))), (4, aI 0), (5, aI ((i : Nat) : Int))], []⟩ : St)) (fun i => (i ≤ List.length x0 ∧ ((List.length x0 : Nat) : Int) + ((ctL (Sh.sz s22) (List.take i x0) : Nat) : Int) ≤ x1)) (fun i => List.length x0 - i) (0) h (st_congr2 (fun (d0 : Int) (d1 : Int) => (⟨[(0, aF s22 x0), (1, aI d0), (4, aI 0), (5, aI d1)], []⟩ : St)) (show (x1 - ((List.length x0 : Nat) : Int) : Int) = (x1 - ((List.length x0 : Nat) : Int) - ((ctL (Sh.sz s22) (List.take (0) x0) : Nat) : Int)) from by first | with_reducible rfl | (simp [ctL]) | rfl) (show (0 : Int) = (((0) : Nat) : Int) from by first | with_reducible rfl | (simp [ctL]) | rfl)) (by simp [ctL]; omega) ?_
  intro i a w hok0 h
  refine wp_seq (wp_seq ?_)
  refine at_regq [] { ts := [0, 1, 4, 5, 15], os := [] } [] gamOK hT h (by kernel_rfl) trivial fun a w h => then_normal ?_
  refine at_test (decide (((i : Nat) : Int) < ((List.length x0 : Nat) : Int))) h (by kernel_rfl) (fun h2 => ?_) (fun h2 => ?_)
  ·replace h2 : ((i : Nat) : Int) < ((List.length x0 : Nat) : Int) := of_decide_eq_true h2
   have hat := ctL_at_le (c := Sh.sz s22) (xs := x0) (z := []) (i := i) (by omega)
   have hsu := ctL_take_succ (c := Sh.sz s22) (xs := x0) (z := []) (i := i) (by omega)
   refine wp_skip (then_normal (wp_seq (wp_block (wp_seq ?_))))
   refine at_regq [] { ts := [0, 1, 4, 5], os := [] } [(0 : Int) ≤ ((i : Nat) : Int) ∧ ((i : Nat) : Int) < ((List.length x0 : Nat) : Int), (pSz s22) (x0.getD i []) (x1 - ((List.length x0 : Nat) : Int) - ((ctL (Sh.sz s22) (List.take i x0) : Nat) : Int))] gamOK hT h (by kernel_rfl) ⟨(by refine ⟨?_, ?_⟩ <;> (first | omega | (simp only [lsA]; omega) | (simp <;> omega))), (by (show (0 : Int) ≤ _ ∧ _ ≤ (9223372036854775807 : Int); constructor <;> omega)), trivial⟩ fun a w h => then_normal (wp_seq ?_)
   refine at_regq [] { ts := [0, 1, 4, 5, 25], os := [] } [] gamOK hT h (by kernel_rfl) trivial fun a w h => then_normal ?_
   refine at_test (decide (((szD s22) (x0.getD i []) (x1 - ((List.length x0 : Nat) : Int) - ((ctL (Sh.sz s22) (List.take i x0) : Nat) : Int))) < 0)) h (by kernel_rfl) (fun h3 => ?_) (fun h3 => ?_)
   ·replace h3 : ((szD s22) (x0.getD i []) (x1 - ((List.length x0 : Nat) : Int) - ((ctL (Sh.sz s22) (List.take i x0) : Nat) : Int))) < 0 := of_decide_eq_true h3
    have hvh3 := szD_neg h3 (by omega)
    refine wp_seq ?_
    refine at_regq [] { ts := [0, 1, 4, 5], os := [] } [] gamOK hT h (by kernel_rfl) trivial fun a w h => then_normal (wp_ret (in_ret (then_ret (then_ret (in_ret (then_ret ?_))))))
    exact at_return ((-1), ()) [] h (by kernel_rfl) trivial (congrArg (fun z => (z, ())) (show ((-1)) = (szD s55) x0 x1 from by exact (szD_no (by omega)).symm))
   ·replace h3 : ¬ (((szD s22) (x0.getD i []) (x1 - ((List.length x0 : Nat) : Int) - ((ctL (Sh.sz s22) (List.take i x0) : Nat) : Int))) < 0) := of_decide_eq_false h3
    have hvh3 := szD_val h3 (by omega)
    refine wp_skip (in_normal (then_normal ?_))
    refine at_regq [{}, { nw := true }] { ts := [0, 1, 4, 5], os := [] } [I64 (((i : Nat) : Int) + 1)] gamOK hT h (by kernel_rfl) ⟨⟨by first | omega | (simp only [lsA]; omega) | (simp <;> omega), by first | omega | (simp only [lsA]; omega) | (simp <;> omega)⟩, trivial⟩ fun a w h => ?_
    replace h := at_out (σ' := ⟨[(0, aF s22 x0), (1, aI ((szD s22) (x0.getD i []) (x1 - ((List.length x0 : Nat) : Int) - ((ctL (Sh.sz s22) (List.take i x0) : Nat) : Int)))), (4, aI 0), (5, aI (((i : Nat) : Int) + 1))], []⟩) { ts := [0, 1, 4, 5], os := [] } h (by kernel_rfl)
    exact ⟨i + 1, at_eq h (st_congr2 (fun (d0 : Int) (d1 : Int) => (⟨[(0, aF s22 x0), (1, aI d0), (4, aI 0), (5, aI d1)], []⟩ : St)) (show (((szD s22) (x0.getD i []) (x1 - ((List.length x0 : Nat) : Int) - ((ctL (Sh.sz s22) (List.take i x0) : Nat) : Int))) : Int) = (x1 - ((List.length x0 : Nat) : Int) - ((ctL (Sh.sz s22) (List.take (i + 1) x0) : Nat) : Int)) from by first | with_reducible rfl | (omega) | rfl) (show (((i : Nat) : Int) + 1 : Int) = (((i + 1) : Nat) : Int) from by first | with_reducible rfl | (omega) | rfl)), (by constructor <;> omega), (by omega)⟩
  ·replace h2 : ¬ (((i : Nat) : Int) < ((List.length x0 : Nat) : Int)) := of_decide_eq_false h2
   refine wp_exit (then_exit (then_exit (in_hit (then_normal (wp_seq ?_)))))
   refine at_regq [] { ts := [4], os := [] } [] gamOK hT h (by kernel_rfl) trivial fun a w h => then_normal (wp_ret ?_)
   exact at_return ((x1 - ((List.length x0 : Nat) : Int) - ((ctL (Sh.sz s22) (List.take i x0) : Nat) : Int)), ()) [] h (by kernel_rfl) trivial (congrArg (fun z => (z, ())) (show ((x1 - ((List.length x0 : Nat) : Int) - ((ctL (Sh.sz s22) (List.take i x0) : Nat) : Int))) = (szD s55) x0 x1 from by (have hta : ctL (Sh.sz s22) (List.take i x0) = ctL (Sh.sz s22) x0 := congrArg (ctL (Sh.sz s22)) (take_all (by omega)); exact ((szD_ok (by omega)).trans (by omega)).symm)))

def S_laws_szBasis : Sum := { fid := 43, dom := [s57, (.int 3)], cod := [(.int 3)], dp := true, fz := false, pre := fun x => (pSz s57) x.1 x.2.1, g := fun x => (((szD s57) x.1 x.2.1), ()) }
def S_laws_szBasis_tab : List (Nat × Sum) := [(44, S_laws_szIntSS)]
theorem S_laws_szBasis_ok : FnOK Tryz.prog 43 S_laws_szBasis := by
 refine at_enter 12 (fun x => ⟨[(0, aG [cI x.1.1, .ro s22 x.1.2]), (1, aI x.2.1)], []⟩) Tryz.func43 rfl (by kernel_rfl) (fun x => rfl) ?_
 rintro w0 Z0 ⟨x0, x1, u⟩ a w
 revert x0 x1
 intro (x0 : T57) (x1 : Int) hpre hlens h
 replace hpre : (pSz s57) x0 x1 := hpre
 have hl1 : List.length x0.2 ≤ 9223372036854775807 := hlens.1.2.1
 have hT : TabOK Tryz.prog S_laws_szBasis_tab := (.cons S_laws_szIntSS_ok .nil)
 have hp : 0 ≤ x1 ∧ x1 ≤ 9223372036854775807 := hpre
 have hsz : Sh.sz s57 x0 = (0 + (Sh.sz s55 x0.2)) := rfl
 refine wp_seq ?_
 refine at_regq [{ ids := [1] }] { ts := [1, 2, 4], os := [1] } [] gamOK hT h (by kernel_rfl) trivial fun a w h => then_normal (wp_seq ?_)
 refine at_regq [] { ts := [1, 4], os := [] } [(pSz s55) x0.2 x1] gamOK hT h (by kernel_rfl) ⟨(by (show (0 : Int) ≤ _ ∧ _ ≤ (9223372036854775807 : Int); constructor <;> omega)), trivial⟩ fun a w h => then_normal (wp_seq (wp_seq ?_))
 refine at_regq [] { ts := [1, 4, 10], os := [] } [] gamOK hT h (by kernel_rfl) trivial fun a w h => then_normal ?_
 refine at_test (decide (((szD s55) x0.2 x1) < 0)) h (by kernel_rfl) (fun h1 => ?_) (fun h1 => ?_)
 ·replace h1 : ((szD s55) x0.2 x1) < 0 := of_decide_eq_true h1
  have hvh1 := szD_neg h1 (by omega)
  refine wp_seq ?_
  refine at_regq [] { ts := [1, 4], os := [] } [] gamOK hT h (by kernel_rfl) trivial fun a w h => then_normal (wp_ret (then_ret ?_))
  exact at_return ((-1), ()) [] h (by kernel_rfl) trivial (congrArg (fun z => (z, ())) (show ((-1)) = (szD s57) x0 x1 from by (first | exact (szD_no (by omega)).symm | exact ((szD_ok (by omega)).trans (by omega)).symm)))
 ·replace h1 : ¬ (((szD s55) x0.2 x1) < 0) := of_decide_eq_false h1
  have hvh1 := szD_val h1 (by omega)
  refine wp_skip (then_normal (wp_seq ?_))
  refine at_regq [] { ts := [4], os := [] } [] gamOK hT h (by kernel_rfl) trivial fun a w h => then_normal (wp_ret ?_)
  exact at_return (((szD s55) x0.2 x1), ()) [] h (by kernel_rfl) trivial (congrArg (fun z => (z, ())) (show (((szD s55) x0.2 x1)) = (szD s57) x0 x1 from by (first | exact (szD_no (by omega)).symm | exact ((szD_ok (by omega)).trans (by omega)).symm)))

def S_laws_szDecoder : Sum := { fid := 29, dom := [s59, (.int 3)], cod := [(.int 3)], dp := true, fz := false, pre := fun x => (pSz s59) x.1 x.2.1, g := fun x => (((szD s59) x.1 x.2.1), ()) }
def S_laws_szDecoder_tab : List (Nat × Sum) := [(43, S_laws_szBasis)]
theorem S_laws_szDecoder_ok : FnOK Tryz.prog 29 S_laws_szDecoder := by
 refine at_enter 12 (fun x => ⟨[(0, aG [cI x.1.1, cI x.1.2.1, cI x.1.2.2.1, cI x.1.2.2.2.1, .ro s22 x.1.2.2.2.2]), (1, aI x.2.1)], []⟩) Tryz.func29 rfl (by kernel_rfl) (fun x => rfl) ?_
 rintro w0 Z0 ⟨x0, x1, u⟩ a w
 revert x0 x1
 intro (x0 : T59) (x1 : Int) hpre hlens h
 replace hpre : (pSz s59) x0 x1 := hpre
 have hl1 : List.length x0.2.2.2.2 ≤ 9223372036854775807 := hlens.1.2.2.2.2.1
 have hT : TabOK Tryz.prog S_laws_szDecoder_tab := (.cons S_laws_szBasis_ok .nil)
 have hp : 0 ≤ x1 ∧ x1 ≤ 9223372036854775807 := hpre
 have hsz : Sh.sz s59 x0 = (0 + (0 + (0 + (Sh.sz s57 x0.2.2.2)))) := rfl
 refine wp_seq ?_
 refine at_regq [{ ids := [1] }] { ts := [1, 2, 4], os := [1] } [] gamOK hT h (by kernel_rfl) trivial fun a w h => then_normal (wp_seq ?_)
 refine at_regq [] { ts := [1, 4], os := [] } [(pSz s57) x0.2.2.2 x1] gamOK hT h (by kernel_rfl) ⟨(by (show (0 : Int) ≤ _ ∧ _ ≤ (9223372036854775807 : Int); constructor <;> omega)), trivial⟩ fun a w h => then_normal (wp_seq (wp_seq ?_))
 refine at_regq [] { ts := [1, 4, 10], os := [] } [] gamOK hT h (by kernel_rfl) trivial fun a w h => then_normal ?_
 refine at_test (decide (((szD s57) x0.2.2.2 x1) < 0)) h (by kernel_rfl) (fun h1 => ?_) (fun h1 => ?_)
 ·replace h1 : ((szD s57) x0.2.2.2 x1) < 0 := of_decide_eq_true h1
  have hvh1 := szD_neg h1 (by omega)
  refine wp_seq ?_
  refine at_regq [] { ts := [1, 4], os := [] } [] gamOK hT h (by kernel_rfl) trivial fun a w h => then_normal (wp_ret (then_ret ?_))
  exact at_return ((-1), ()) [] h (by kernel_rfl) trivial (congrArg (fun z => (z, ())) (show ((-1)) = (szD s59) x0 x1 from by (first | exact (szD_no (by omega)).symm | exact ((szD_ok (by omega)).trans (by omega)).symm)))
 ·replace h1 : ¬ (((szD s57) x0.2.2.2 x1) < 0) := of_decide_eq_false h1
  have hvh1 := szD_val h1 (by omega)
  refine wp_skip (then_normal (wp_seq ?_))
  refine at_regq [] { ts := [4], os := [] } [] gamOK hT h (by kernel_rfl) trivial fun a w h => then_normal (wp_ret ?_)
  exact at_return (((szD s57) x0.2.2.2 x1), ()) [] h (by kernel_rfl) trivial (congrArg (fun z => (z, ())) (show (((szD s57) x0.2.2.2 x1)) = (szD s59) x0 x1 from by (first | exact (szD_no (by omega)).symm | exact ((szD_ok (by omega)).trans (by omega)).symm)))

def S_laws_szDecoderS : Sum := { fid := 14, dom := [s23, (.int 3)], cod := [(.int 3)], dp := true, fz := false, pre := fun x => (pSz s23) x.1 x.2.1, g := fun x => (((szD s23) x.1 x.2.1), ()) }
def S_laws_szDecoderS_tab : List (Nat × Sum) := [(29, S_laws_szDecoder)]
theorem S_laws_szDecoderS_ok : FnOK Tryz.prog 14 S_laws_szDecoderS := by
 refine at_enter 27 (fun x => ⟨[(0, aF s59 x.1), (1, aI x.2.1)], []⟩) Tryz.func14 rfl (by kernel_rfl) (fun x => rfl) ?_
 rintro w0 Z0 ⟨x0, x1, u⟩ a w
 revert x0 x1
 intro (x0 : (List T59)) (x1 : Int) hpre hlens h
 replace hpre : (pSz s23) x0 x1 := hpre
 have hl1 : List.length x0 ≤ 9223372036854775807 := hlens.1.1
 have hT : TabOK Tryz.prog S_laws_szDecoderS_tab := (.cons S_laws_szDecoder_ok .nil)
 have hp : 0 ≤ x1 ∧ x1 ≤ 9223372036854775807 := hpre
 have hsz : Sh.sz s23 x0 = List.length x0 + ctL (Sh.sz s59) x0 := rfl
 refine wp_seq ?_
 refine at_regq [] { ts := [0, 1, 4], os := [] } [] gamOK hT h (by kernel_rfl) trivial fun a w h => then_normal (wp_seq ?_)
 refine at_regq [{}, {}, {}, { nw := true }] { ts := [0, 1, 4], os := [] } [I64 (x1 - ((List.length x0 : Nat) : Int))] gamOK hT h (by kernel_rfl) ⟨⟨by first | omega | (simp only [lsA]; omega) | (simp <;> omega), by first | omega | (simp only [lsA]; omega) | (simp <;> omega)⟩, trivial⟩ fun a w h => then_normal (wp_seq (wp_seq ?_))
 refine at_regq [] { ts := [0, 1, 4, 11], os := [] } [] gamOK hT h (by kernel_rfl) trivial fun a w h => then_normal ?_
 refine at_test (decide (x1 - ((List.length x0 : Nat) : Int) < 0)) h (by kernel_rfl) (fun h1 => ?_) (fun h1 => ?_)
 ·replace h1 : x1 - ((List.length x0 : Nat) : Int) < 0 := of_decide_eq_true h1
  refine wp_seq ?_
  refine at_regq [] { ts := [0, 1, 4], os := [] } [] gamOK hT h (by kernel_rfl) trivial fun a w h => then_normal (wp_ret (then_ret ?_))
  exact at_return ((-1), ()) [] h (by kernel_rfl) trivial (congrArg (fun z => (z, ())) (show ((-1)) = (szD s23) x0 x1 from by exact (szD_no (by omega)).symm))
 ·replace h1 : ¬ (x1 - ((List.length x0 : Nat) : Int) < 0) := of_decide_eq_false h1
  refine wp_skip (then_normal (wp_seq (wp_seq ?_)))
  refine at_regq [] { ts := [0, 1, 4, 5], os := [] } [] gamOK hT h (by kernel_rfl) trivial fun a w h => then_normal (wp_block ?_)
  replace h := at_out (σ' := ⟨[(0, aF s59 x0), (1, aI (x1 - ((List.length x0 : Nat) : Int))), (4, aI 0), (5, aI 0)], []⟩) { ts := [0, 1, 4, 5], os := [] } h (by kernel_rfl)
  refine at_loop (fun i : Nat => (⟨[(0, aF s59 x0), (1, aI (x1 - ((List.length x0 : Nat) : Int) - ((ctL (Sh.sz s59) (List.take i x0) : Nat) : Int))), (4, aI 0), (5, aI ((i : Nat) : Int))], []⟩ : St)) (fun i => (i ≤ List.length x0 ∧ ((List.length x0 : Nat) : Int) + ((ctL (Sh.sz s59) (List.take i x0) : Nat) : Int) ≤ x1)) (fun i => List.length x0 - i) (0) h (st_congr2 (fun (d0 : Int) (d1 : Int) => (⟨[(0, aF s59 x0), (1, aI d0), (4, aI 0), (5, aI d1)], []⟩ : St)) (show (x1 - ((List.length x0 : Nat) : Int) : Int) = (x1 - ((List.length x0 : Nat) : Int) - ((ctL (Sh.sz s59) (List.take (0) x0) : Nat) : Int)) from by first | with_reducible rfl | (simp [ctL]) | rfl) (show (0 : Int) = (((0) : Nat) : Int) from by first | with_reducible rfl | (simp [ctL]) | rfl)) (by simp [ctL]; omega) ?_
  intro i a w hok0 h
  refine wp_seq (wp_seq ?_)
  refine at_regq [] { ts := [0, 1, 4, 5, 15], os := [] } [] gamOK hT h (by kernel_rfl) trivial fun a w h => then_normal ?_
  refine at_test (decide (((i : Nat) : Int) < ((List.length x0 : Nat) : Int))) h (by kernel_rfl) (fun h2 => ?_) (fun h2 => ?_)
  ·replace h2 : ((i : Nat) : Int) < ((List.length x0 : Nat) : Int) := of_decide_eq_true h2
   have hat := ctL_at_le (c := Sh.sz s59) (xs := x0) (z := (0, (0, (0, (0, []))))) (i := i) (by omega)
   have hsu := ctL_take_succ (c := Sh.sz s59) (xs := x0) (z := (0, (0, (0, (0, []))))) (i := i) (by omega)
   refine wp_skip (then_normal (wp_seq (wp_block (wp_seq ?_))))
   refine at_regq [] { ts := [0, 1, 4, 5], os := [] } [(0 : Int) ≤ ((i : Nat) : Int) ∧ ((i : Nat) : Int) < ((List.length x0 : Nat) : Int), (pSz s59) (x0.getD i (0, (0, (0, (0, []))))) (x1 - ((List.length x0 : Nat) : Int) - ((ctL (Sh.sz s59) (List.take i x0) : Nat) : Int))] gamOK hT h (by kernel_rfl) ⟨(by refine ⟨?_, ?_⟩ <;> (first | omega | (simp only [lsA]; omega) | (simp <;> omega))), (by (show (0 : Int) ≤ _ ∧ _ ≤ (9223372036854775807 : Int); constructor <;> omega)), trivial⟩ fun a w h => then_normal (wp_seq ?_)
   refine at_regq [] { ts := [0, 1, 4, 5, 25], os := [] } [] gamOK hT h (by kernel_rfl) trivial fun a w h => then_normal ?_
   refine at_test (decide (((szD s59) (x0.getD i (0, (0, (0, (0, []))))) (x1 - ((List.length x0 : Nat) : Int) - ((ctL (Sh.sz s59) (List.take i x0) : Nat) : Int))) < 0)) h (by kernel_rfl) (fun h3 => ?_) (fun h3 => ?_)
   ·replace h3 : ((szD s59) (x0.getD i (0, (0, (0, (0, []))))) (x1 - ((List.length x0 : Nat) : Int) - ((ctL (Sh.sz s59) (List.take i x0) : Nat) : Int))) < 0 := of_decide_eq_true h3
    have hvh3 := szD_neg h3 (by omega)
    refine wp_seq ?_
    refine at_regq [] { ts := [0, 1, 4, 5], os := [] } [] gamOK hT h (by kernel_rfl) trivial fun a w h => then_normal (wp_ret (in_ret (then_ret (then_ret (in_ret (then_ret ?_))))))
    exact at_return ((-1), ()) [] h (by kernel_rfl) trivial (congrArg (fun z => (z, ())) (show ((-1)) = (szD s23) x0 x1 from by exact (szD_no (by omega)).symm))
   ·replace h3 : ¬ (((szD s59) (x0.getD i (0, (0, (0, (0, []))))) (x1 - ((List.length x0 : Nat) : Int) - ((ctL (Sh.sz s59) (List.take i x0) : Nat) : Int))) < 0) := of_decide_eq_false h3
    have hvh3 := szD_val h3 (by omega)
    refine wp_skip (in_normal (then_normal ?_))
    refine at_regq [{}, { nw := true }] { ts := [0, 1, 4, 5], os := [] } [I64 (((i : Nat) : Int) + 1)] gamOK hT h (by kernel_rfl) ⟨⟨by first | omega | (simp only [lsA]; omega) | (simp <;> omega), by first | omega | (simp only [lsA]; omega) | (simp <;> omega)⟩, trivial⟩ fun a w h => ?_
    replace h := at_out (σ' := ⟨[(0, aF s59 x0), (1, aI ((szD s59) (x0.getD i (0, (0, (0, (0, []))))) (x1 - ((List.length x0 : Nat) : Int) - ((ctL (Sh.sz s59) (List.take i x0) : Nat) : Int)))), (4, aI 0), (5, aI (((i : Nat) : Int) + 1))], []⟩) { ts := [0, 1, 4, 5], os := [] } h (by kernel_rfl)
    exact ⟨i + 1, at_eq h (st_congr2 (fun (d0 : Int) (d1 : Int) => (⟨[(0, aF s59 x0), (1, aI d0), (4, aI 0), (5, aI d1)], []⟩ : St)) (show (((szD s59) (x0.getD i (0, (0, (0, (0, []))))) (x1 - ((List.length x0 : Nat) : Int) - ((ctL (Sh.sz s59) (List.take i x0) : Nat) : Int))) : Int) = (x1 - ((List.length x0 : Nat) : Int) - ((ctL (Sh.sz s59) (List.take (i + 1) x0) : Nat) : Int)) from by first | with_reducible rfl | (omega) | rfl) (show (((i : Nat) : Int) + 1 : Int) = (((i + 1) : Nat) : Int) from by first | with_reducible rfl | (omega) | rfl)), (by constructor <;> omega), (by omega)⟩
  ·replace h2 : ¬ (((i : Nat) : Int) < ((List.length x0 : Nat) : Int)) := of_decide_eq_false h2
   refine wp_exit (then_exit (then_exit (in_hit (then_normal (wp_seq ?_)))))
   refine at_regq [] { ts := [4], os := [] } [] gamOK hT h (by kernel_rfl) trivial fun a w h => then_normal (wp_ret ?_)
   exact at_return ((x1 - ((List.length x0 : Nat) : Int) - ((ctL (Sh.sz s59) (List.take i x0) : Nat) : Int)), ()) [] h (by kernel_rfl) trivial (congrArg (fun z => (z, ())) (show ((x1 - ((List.length x0 : Nat) : Int) - ((ctL (Sh.sz s59) (List.take i x0) : Nat) : Int))) = (szD s23) x0 x1 from by (have hta : ctL (Sh.sz s59) (List.take i x0) = ctL (Sh.sz s59) x0 := congrArg (ctL (Sh.sz s59)) (take_all (by omega)); exact ((szD_ok (by omega)).trans (by omega)).symm)))

def S_laws_szGeneration : Sum := { fid := 30, dom := [s62, (.int 3)], cod := [(.int 3)], dp := true, fz := false, pre := fun x => (pSz s62) x.1 x.2.1, g := fun x => (((szD s62) x.1 x.2.1), ()) }
def S_laws_szGeneration_tab : List (Nat × Sum) := [(44, S_laws_szIntSS)]
theorem S_laws_szGeneration_ok : FnOK Tryz.prog 30 S_laws_szGeneration := by
 refine at_enter 12 (fun x => ⟨[(0, aG [cI x.1.1, .ro s22 x.1.2]), (1, aI x.2.1)], []⟩) Tryz.func30 rfl (by kernel_rfl) (fun x => rfl) ?_
 rintro w0 Z0 ⟨x0, x1, u⟩ a w
 revert x0 x1
 intro (x0 : T62) (x1 : Int) hpre hlens h
 replace hpre : (pSz s62) x0 x1 := hpre
 have hl1 : List.length x0.2 ≤ 9223372036854775807 := hlens.1.2.1
 have hT : TabOK Tryz.prog S_laws_szGeneration_tab := (.cons S_laws_szIntSS_ok .nil)
 have hp : 0 ≤ x1 ∧ x1 ≤ 9223372036854775807 := hpre
 have hsz : Sh.sz s62 x0 = (0 + (Sh.sz s55 x0.2)) := rfl
 refine wp_seq ?_
 refine at_regq [{ ids := [1] }] { ts := [1, 2, 4], os := [1] } [] gamOK hT h (by kernel_rfl) trivial fun a w h => then_normal (wp_seq ?_)
 refine at_regq [] { ts := [1, 4], os := [] } [(pSz s55) x0.2 x1] gamOK hT h (by kernel_rfl) ⟨(by (show (0 : Int) ≤ _ ∧ _ ≤ (9223372036854775807 : Int); constructor <;> omega)), trivial⟩ fun a w h => then_normal (wp_seq (wp_seq ?_))
 refine at_regq [] { ts := [1, 4, 10], os := [] } [] gamOK hT h (by kernel_rfl) trivial fun a w h => then_normal ?_
 refine at_test (decide (((szD s55) x0.2 x1) < 0)) h (by kernel_rfl) (fun h1 => ?_) (fun h1 => ?_)
 ·replace h1 : ((szD s55) x0.2 x1) < 0 := of_decide_eq_true h1
  have hvh1 := szD_neg h1 (by omega)
  refine wp_seq ?_
  refine at_regq [] { ts := [1, 4], os := [] } [] gamOK hT h (by kernel_rfl) trivial fun a w h => then_normal (wp_ret (then_ret ?_))
  exact at_return ((-1), ()) [] h (by kernel_rfl) trivial (congrArg (fun z => (z, ())) (show ((-1)) = (szD s62) x0 x1 from by (first | exact (szD_no (by omega)).symm | exact ((szD_ok (by omega)).trans (by omega)).symm)))
 ·replace h1 : ¬ (((szD s55) x0.2 x1) < 0) := of_decide_eq_false h1
  have hvh1 := szD_val h1 (by omega)
  refine wp_skip (then_normal (wp_seq ?_))
  refine at_regq [] { ts := [4], os := [] } [] gamOK hT h (by kernel_rfl) trivial fun a w h => then_normal (wp_ret ?_)
  exact at_return (((szD s55) x0.2 x1), ()) [] h (by kernel_rfl) trivial (congrArg (fun z => (z, ())) (show (((szD s55) x0.2 x1)) = (szD s62) x0 x1 from by (first | exact (szD_no (by omega)).symm | exact ((szD_ok (by omega)).trans (by omega)).symm)))

def S_laws_szGenerationS : Sum := { fid := 15, dom := [s24, (.int 3)], cod := [(.int 3)], dp := true, fz := false, pre := fun x => (pSz s24) x.1 x.2.1, g := fun x => (((szD s24) x.1 x.2.1), ()) }
def S_laws_szGenerationS_tab : List (Nat × Sum) := [(30, S_laws_szGeneration)]
theorem S_laws_szGenerationS_ok : FnOK Tryz.prog 15 S_laws_szGenerationS := by
 refine at_enter 27 (fun x => ⟨[(0, aF s62 x.1), (1, aI x.2.1)], []⟩) Tryz.func15 rfl (by kernel_rfl) (fun x => rfl) ?_
 rintro w0 Z0 ⟨x0, x1, u⟩ a w
 revert x0 x1
 intro (x0 : (List T62)) (x1 : Int) hpre hlens h
 replace hpre : (pSz s24) x0 x1 := hpre
 have hl1 : List.length x0 ≤ 9223372036854775807 := hlens.1.1
 have hT : TabOK Tryz.prog S_laws_szGenerationS_tab := (.cons S_laws_szGeneration_ok .nil)
 have hp : 0 ≤ x1 ∧ x1 ≤ 9223372036854775807 := hpre
 have hsz : Sh.sz s24 x0 = List.length x0 + ctL (Sh.sz s62) x0 := rfl
 refine wp_seq ?_
 refine at_regq [] { ts := [0, 1, 4], os := [] } [] gamOK hT h (by kernel_rfl) trivial fun a w h => then_normal (wp_seq ?_)
 refine at_regq [{}, {}, {}, { nw := true }] { ts := [0, 1, 4], os := [] } [I64 (x1 - ((List.length x0 : Nat) : Int))] gamOK hT h (by kernel_rfl) ⟨⟨by first | omega | (simp only [lsA]; omega) | (simp <;> omega), by first | omega | (simp only [lsA]; omega) | (simp <;> omega)⟩, trivial⟩ fun a w h => then_normal (wp_seq (wp_seq ?_))
 refine at_regq [] { ts := [0, 1, 4, 11], os := [] } [] gamOK hT h (by kernel_rfl) trivial fun a w h => then_normal ?_
 refine at_test (decide (x1 - ((List.length x0 : Nat) : Int) < 0)) h (by kernel_rfl) (fun h1 => ?_) (fun h1 => ?_)
 ·replace h1 : x1 - ((List.length x0 : Nat) : Int) < 0 := of_decide_eq_true h1
  refine wp_seq ?_
  refine at_regq [] { ts := [0, 1, 4], os := [] } [] gamOK hT h (by kernel_rfl) trivial fun a w h => then_normal (wp_ret (then_ret ?_))
  exact at_return ((-1), ()) [] h (by kernel_rfl) trivial (congrArg (fun z => (z, ())) (show ((-1)) = (szD s24) x0 x1 from by exact (szD_no (by omega)).symm))
 ·replace h1 : ¬ (x1 - ((List.length x0 : Nat) : Int) < 0) := of_decide_eq_false h1
  refine wp_skip (then_normal (wp_seq (wp_seq ?_)))
  refine at_regq [] { ts := [0, 1, 4, 5], os := [] } [] gamOK hT h (by kernel_rfl) trivial fun a w h => then_normal (wp_block ?_)
  replace h := at_out (σ' := ⟨[(0, aF s62 x0), (1, aI (x1 - ((List.length x0 : Nat) : Int))), (4, aI 0), (5, aI 0)], []⟩) { ts := [0, 1, 4, 5], os := [] } h (by kernel_rfl)
  refine at_loop (fun i : Nat => (⟨[(0, aF s62 x0), (1, aI (x1 - ((List.length x0 : Nat) : Int) - ((ctL (Sh.sz s62) (List.take i x0) : Nat) : Int))), (4, aI 0), (5, aI ((i : Nat) : Int))], []⟩ : St)) (fun i => (i ≤ List.length x0 ∧ ((List.length x0 : Nat) : Int) + ((ctL (Sh.sz s62) (List.take i x0) : Nat) : Int) ≤ x1)) (fun i => List.length x0 - i) (0) h (st_congr2 (fun (d0 : Int) (d1 : Int) => (⟨[(0, aF s62 x0), (1, aI d0), (4, aI 0), (5, aI d1)], []⟩ : St)) (show (x1 - ((List.length x0 : Nat) : Int) : Int) = (x1 - ((List.length x0 : Nat) : Int) - ((ctL (Sh.sz s62) (List.take (0) x0) : Nat) : Int)) from by first | with_reducible rfl | (simp [ctL]) | rfl) (show (0 : Int) = (((0) : Nat) : Int) from by first | with_reducible rfl | (simp [ctL]) | rfl)) (by simp [ctL]; omega) ?_
  intro i a w hok0 h
  refine wp_seq (wp_seq ?_)
  refine at_regq [] { ts := [0, 1, 4, 5, 15], os := [] } [] gamOK hT h (by kernel_rfl) trivial fun a w h => then_normal ?_
  refine at_test (decide (((i : Nat) : Int) < ((List.length x0 : Nat) : Int))) h (by kernel_rfl) (fun h2 => ?_) (fun h2 => ?_)
  ·replace h2 : ((i : Nat) : Int) < ((List.length x0 : Nat) : Int) := of_decide_eq_true h2
   have hat := ctL_at_le (c := Sh.sz s62) (xs := x0) (z := (0, [])) (i := i) (by omega)
   have hsu := ctL_take_succ (c := Sh.sz s62) (xs := x0) (z := (0, [])) (i := i) (by omega)
   refine wp_skip (then_normal (wp_seq (wp_block (wp_seq ?_))))
   refine at_regq [] { ts := [0, 1, 4, 5], os := [] } [(0 : Int) ≤ ((i : Nat) : Int) ∧ ((i : Nat) : Int) < ((List.length x0 : Nat) : Int), (pSz s62) (x0.getD i (0, [])) (x1 - ((List.length x0 : Nat) : Int) - ((ctL (Sh.sz s62) (List.take i x0) : Nat) : Int))] gamOK hT h (by kernel_rfl) ⟨(by refine ⟨?_, ?_⟩ <;> (first | omega | (simp only [lsA]; omega) | (simp <;> omega))), (by (show (0 : Int) ≤ _ ∧ _ ≤ (9223372036854775807 : Int); constructor <;> omega)), trivial⟩ fun a w h => then_normal (wp_seq ?_)
   refine at_regq [] { ts := [0, 1, 4, 5, 25], os := [] } [] gamOK hT h (by kernel_rfl) trivial fun a w h => then_normal ?_
   refine at_test (decide (((szD s62) (x0.getD i (0, [])) (x1 - ((List.length x0 : Nat) : Int) - ((ctL (Sh.sz s62) (List.take i x0) : Nat) : Int))) < 0)) h (by kernel_rfl) (fun h3 => ?_) (fun h3 => ?_)
   ·replace h3 : ((szD s62) (x0.getD i (0, [])) (x1 - ((List.length x0 : Nat) : Int) - ((ctL (Sh.sz s62) (List.take i x0) : Nat) : Int))) < 0 := of_decide_eq_true h3
    have hvh3 := szD_neg h3 (by omega)
    refine wp_seq ?_
    refine at_regq [] { ts := [0, 1, 4, 5], os := [] } [] gamOK hT h (by kernel_rfl) trivial fun a w h => then_normal (wp_ret (in_ret (then_ret (then_ret (in_ret (then_ret ?_))))))
    exact at_return ((-1), ()) [] h (by kernel_rfl) trivial (congrArg (fun z => (z, ())) (show ((-1)) = (szD s24) x0 x1 from by exact (szD_no (by omega)).symm))
   ·replace h3 : ¬ (((szD s62) (x0.getD i (0, [])) (x1 - ((List.length x0 : Nat) : Int) - ((ctL (Sh.sz s62) (List.take i x0) : Nat) : Int))) < 0) := of_decide_eq_false h3
    have hvh3 := szD_val h3 (by omega)
    refine wp_skip (in_normal (then_normal ?_))
    refine at_regq [{}, { nw := true }] { ts := [0, 1, 4, 5], os := [] } [I64 (((i : Nat) : Int) + 1)] gamOK hT h (by kernel_rfl) ⟨⟨by first | omega | (simp only [lsA]; omega) | (simp <;> omega), by first | omega | (simp only [lsA]; omega) | (simp <;> omega)⟩, trivial⟩ fun a w h => ?_
    replace h := at_out (σ' := ⟨[(0, aF s62 x0), (1, aI ((szD s62) (x0.getD i (0, [])) (x1 - ((List.length x0 : Nat) : Int) - ((ctL (Sh.sz s62) (List.take i x0) : Nat) : Int)))), (4, aI 0), (5, aI (((i : Nat) : Int) + 1))], []⟩) { ts := [0, 1, 4, 5], os := [] } h (by kernel_rfl)
    exact ⟨i + 1, at_eq h (st_congr2 (fun (d0 : Int) (d1 : Int) => (⟨[(0, aF s62 x0), (1, aI d0), (4, aI 0), (5, aI d1)], []⟩ : St)) (show (((szD s62) (x0.getD i (0, [])) (x1 - ((List.length x0 : Nat) : Int) - ((ctL (Sh.sz s62) (List.take i x0) : Nat) : Int))) : Int) = (x1 - ((List.length x0 : Nat) : Int) - ((ctL (Sh.sz s62) (List.take (i + 1) x0) : Nat) : Int)) from by first | with_reducible rfl | (omega) | rfl) (show (((i : Nat) : Int) + 1 : Int) = (((i + 1) : Nat) : Int) from by first | with_reducible rfl | (omega) | rfl)), (by constructor <;> omega), (by omega)⟩
  ·replace h2 : ¬ (((i : Nat) : Int) < ((List.length x0 : Nat) : Int)) := of_decide_eq_false h2
   refine wp_exit (then_exit (then_exit (in_hit (then_normal (wp_seq ?_)))))
   refine at_regq [] { ts := [4], os := [] } [] gamOK hT h (by kernel_rfl) trivial fun a w h => then_normal (wp_ret ?_)
   exact at_return ((x1 - ((List.length x0 : Nat) : Int) - ((ctL (Sh.sz s62) (List.take i x0) : Nat) : Int)), ()) [] h (by kernel_rfl) trivial (congrArg (fun z => (z, ())) (show ((x1 - ((List.length x0 : Nat) : Int) - ((ctL (Sh.sz s62) (List.take i x0) : Nat) : Int))) = (szD s24) x0 x1 from by (have hta : ctL (Sh.sz s62) (List.take i x0) = ctL (Sh.sz s62) x0 := congrArg (ctL (Sh.sz s62)) (take_all (by omega)); exact ((szD_ok (by omega)).trans (by omega)).symm)))

def S_laws_szSink : Sum := { fid := 4, dom := [s26, (.int 3)], cod := [(.int 3)], dp := true, fz := false, pre := fun x => (pSz s26) x.1 x.2.1, g := fun x => (((szD s26) x.1 x.2.1), ()) }
def S_laws_szSink_tab : List (Nat × Sum) := [(13, S_laws_szIntS), (14, S_laws_szDecoderS), (15, S_laws_szGenerationS)]
theorem S_laws_szSink_ok : FnOK Tryz.prog 4 S_laws_szSink := by
 refine at_enter 24 (fun x => ⟨[(0, aG [cI x.1.1, cI x.1.2.1, .ro (.int 3) x.1.2.2.1, .ro s59 x.1.2.2.2.1, .ro s62 x.1.2.2.2.2.1, cI x.1.2.2.2.2.2]), (1, aI x.2.1)], []⟩) Tryz.func4 rfl (by kernel_rfl) (fun x => rfl) ?_
 rintro w0 Z0 ⟨x0, x1, u⟩ a w
 revert x0 x1
 intro (x0 : T26) (x1 : Int) hpre hlens h
 replace hpre : (pSz s26) x0 x1 := hpre
 have hl1 : List.length x0.2.2.1 ≤ 9223372036854775807 := hlens.1.2.2.1.1
 have hl2 : List.length x0.2.2.2.1 ≤ 9223372036854775807 := hlens.1.2.2.2.1.1
 have hl3 : List.length x0.2.2.2.2.1 ≤ 9223372036854775807 := hlens.1.2.2.2.2.1.1
 have hT : TabOK Tryz.prog S_laws_szSink_tab := (.cons S_laws_szIntS_ok (.cons S_laws_szDecoderS_ok (.cons S_laws_szGenerationS_ok .nil)))
 have hp : 0 ≤ x1 ∧ x1 ≤ 9223372036854775807 := hpre
 have hsz : Sh.sz s26 x0 = (0 + (0 + ((Sh.sz s22 x0.2.2.1) + ((Sh.sz s23 x0.2.2.2.1) + ((Sh.sz s24 x0.2.2.2.2.1) + 0))))) := rfl
 refine wp_seq ?_
 refine at_regq [{ ids := [1] }] { ts := [1, 2, 4], os := [1] } [] gamOK hT h (by kernel_rfl) trivial fun a w h => then_normal (wp_seq ?_)
 refine at_regq [] { ts := [1, 2, 4], os := [1] } [(pSz s22) x0.2.2.1 x1] gamOK hT h (by kernel_rfl) ⟨(by (show (0 : Int) ≤ _ ∧ _ ≤ (9223372036854775807 : Int); constructor <;> omega)), trivial⟩ fun a w h => then_normal (wp_seq (wp_seq ?_))
 refine at_regq [] { ts := [1, 2, 4, 10], os := [1] } [] gamOK hT h (by kernel_rfl) trivial fun a w h => then_normal ?_
 refine at_test (decide (((szD s22) x0.2.2.1 x1) < 0)) h (by kernel_rfl) (fun h1 => ?_) (fun h1 => ?_)
 ·replace h1 : ((szD s22) x0.2.2.1 x1) < 0 := of_decide_eq_true h1
  have hvh1 := szD_neg h1 (by omega)
  refine wp_seq ?_
  refine at_regq [] { ts := [1, 2, 4], os := [1] } [] gamOK hT h (by kernel_rfl) trivial fun a w h => then_normal (wp_ret (then_ret ?_))
  exact at_return ((-1), ()) [] h (by kernel_rfl) trivial (congrArg (fun z => (z, ())) (show ((-1)) = (szD s26) x0 x1 from by (first | exact (szD_no (by omega)).symm | exact ((szD_ok (by omega)).trans (by omega)).symm)))
 ·replace h1 : ¬ (((szD s22) x0.2.2.1 x1) < 0) := of_decide_eq_false h1
  have hvh1 := szD_val h1 (by omega)
  refine wp_skip (then_normal (wp_seq ?_))
  refine at_regq [] { ts := [1, 2, 4], os := [1] } [(pSz s23) x0.2.2.2.1 ((szD s22) x0.2.2.1 x1)] gamOK hT h (by kernel_rfl) ⟨(by (show (0 : Int) ≤ _ ∧ _ ≤ (9223372036854775807 : Int); constructor <;> omega)), trivial⟩ fun a w h => then_normal (wp_seq (wp_seq ?_))
  refine at_regq [] { ts := [1, 2, 4, 16], os := [1] } [] gamOK hT h (by kernel_rfl) trivial fun a w h => then_normal ?_
  refine at_test (decide (((szD s23) x0.2.2.2.1 ((szD s22) x0.2.2.1 x1)) < 0)) h (by kernel_rfl) (fun h2 => ?_) (fun h2 => ?_)
  ·replace h2 : ((szD s23) x0.2.2.2.1 ((szD s22) x0.2.2.1 x1)) < 0 := of_decide_eq_true h2
   have hvh2 := szD_neg h2 (by omega)
   refine wp_seq ?_
   refine at_regq [] { ts := [1, 2, 4], os := [1] } [] gamOK hT h (by kernel_rfl) trivial fun a w h => then_normal (wp_ret (then_ret ?_))
   exact at_return ((-1), ()) [] h (by kernel_rfl) trivial (congrArg (fun z => (z, ())) (show ((-1)) = (szD s26) x0 x1 from by (first | exact (szD_no (by omega)).symm | exact ((szD_ok (by omega)).trans (by omega)).symm)))
  ·replace h2 : ¬ (((szD s23) x0.2.2.2.1 ((szD s22) x0.2.2.1 x1)) < 0) := of_decide_eq_false h2
   have hvh2 := szD_val h2 (by omega)
   refine wp_skip (then_normal (wp_seq ?_))
   refine at_regq [] { ts := [1, 4], os := [] } [(pSz s24) x0.2.2.2.2.1 ((szD s23) x0.2.2.2.1 ((szD s22) x0.2.2.1 x1))] gamOK hT h (by kernel_rfl) ⟨(by (show (0 : Int) ≤ _ ∧ _ ≤ (9223372036854775807 : Int); constructor <;> omega)), trivial⟩ fun a w h => then_normal (wp_seq (wp_seq ?_))
   refine at_regq [] { ts := [1, 4, 22], os := [] } [] gamOK hT h (by kernel_rfl) trivial fun a w h => then_normal ?_
   refine at_test (decide (((szD s24) x0.2.2.2.2.1 ((szD s23) x0.2.2.2.1 ((szD s22) x0.2.2.1 x1))) < 0)) h (by kernel_rfl) (fun h3 => ?_) (fun h3 => ?_)
   ·replace h3 : ((szD s24) x0.2.2.2.2.1 ((szD s23) x0.2.2.2.1 ((szD s22) x0.2.2.1 x1))) < 0 := of_decide_eq_true h3
    have hvh3 := szD_neg h3 (by omega)
    refine wp_seq ?_
    refine at_regq [] { ts := [1, 4], os := [] } [] gamOK hT h (by kernel_rfl) trivial fun a w h => then_normal (wp_ret (then_ret ?_))
    exact at_return ((-1), ()) [] h (by kernel_rfl) trivial (congrArg (fun z => (z, ())) (show ((-1)) = (szD s26) x0 x1 from by (first | exact (szD_no (by omega)).symm | exact ((szD_ok (by omega)).trans (by omega)).symm)))
   ·replace h3 : ¬ (((szD s24) x0.2.2.2.2.1 ((szD s23) x0.2.2.2.1 ((szD s22) x0.2.2.1 x1))) < 0) := of_decide_eq_false h3
    have hvh3 := szD_val h3 (by omega)
    refine wp_skip (then_normal (wp_seq ?_))
    refine at_regq [] { ts := [4], os := [] } [] gamOK hT h (by kernel_rfl) trivial fun a w h => then_normal (wp_ret ?_)
    exact at_return (((szD s24) x0.2.2.2.2.1 ((szD s23) x0.2.2.2.1 ((szD s22) x0.2.2.1 x1))), ()) [] h (by kernel_rfl) trivial (congrArg (fun z => (z, ())) (show (((szD s24) x0.2.2.2.2.1 ((szD s23) x0.2.2.2.1 ((szD s22) x0.2.2.1 x1)))) = (szD s26) x0 x1 from by (first | exact (szD_no (by omega)).symm | exact ((szD_ok (by omega)).trans (by omega)).symm)))

def S_laws_toIntS : Sum := { fid := 18, dom := [s22], cod := [s22], dp := true, fz := false, pre := fun x => (pTo s22) x.1, g := fun x => (((idD s22) x.1), ()) }
def S_laws_toIntS_tab : List (Nat × Sum) := []
theorem S_laws_toIntS_ok : FnOK Tryz.prog 18 S_laws_toIntS := by
 refine at_enter 22 (fun x => ⟨[(0, aF (.int 3) x.1)], []⟩) Tryz.func18 rfl (by kernel_rfl) (fun x => rfl) ?_
 rintro w0 Z0 ⟨x0, u⟩ a w
 revert x0
 intro (x0 : (List Int)) hpre hlens h
 replace hpre : (pTo s22) x0 := hpre
 have hl1 : List.length x0 ≤ 9223372036854775807 := hlens.1.1
 have hT : TabOK Tryz.prog S_laws_toIntS_tab := .nil
 have hp : Sh.sz s22 x0 ≤ 1048576 := hpre
 have hsz : Sh.sz s22 x0 = List.length x0 + ctL (Sh.sz (.int 3)) x0 := rfl
 refine wp_seq ?_
 refine at_regq [] { ts := [0, 2], os := [] } [] gamOK hT h (by kernel_rfl) trivial fun a w h => then_normal (wp_seq ?_)
 refine at_regq [{}, {}, { ids := [1] }] { ts := [0, 2, 3], os := [1] } [(0 : Int) ≤ ((List.length x0 : Nat) : Int) ∧ ((List.length x0 : Nat) : Int) = ((List.length x0 : Nat) : Int) ∧ ((List.length x0 : Nat) : Int) * (8 : Nat) ≤ (140737488355328 : Int)] gamOK hT h (by kernel_rfl) ⟨(by refine ⟨?_, ?_, ?_⟩ <;> ((have hA0 := mul_f ((List.length x0 : Nat) : Int) (8 : Nat); first | omega | (simp only [lsA, copyTo_len hok0]; omega) | (simp <;> omega)))), trivial⟩ fun a w h => then_normal (wp_seq (wp_seq ?_))
 refine at_regq [] { ts := [0, 2, 3, 4], os := [1] } [] gamOK hT h (by kernel_rfl) trivial fun a w h => then_normal (wp_block ?_)
 replace h := at_out (σ' := ⟨[(0, aF (.int 3) x0), (2, .p (.c (cN))), (3, aS 1), (4, aI 0)], [(1, oR (.int 3) (List.replicate (List.length x0) (0 : Int)))]⟩) { ts := [0, 2, 3, 4], os := [1] } h (by kernel_rfl)
 refine at_loop (fun i : Nat => (⟨[(0, aF (.int 3) x0), (2, .p (.c (cN))), (3, aS 1), (4, aI ((i : Nat) : Int))], [(1, oR (.int 3) (copyTo 0 x0 i))]⟩ : St)) (fun i => i ≤ List.length x0) (fun i => List.length x0 - i) (0) h (st_congr2 (fun (d0 : List Int) (d1 : Int) => (⟨[(0, aF (.int 3) x0), (2, .p (.c (cN))), (3, aS 1), (4, aI d1)], [(1, oR (.int 3) d0)]⟩ : St)) (show ((List.replicate (List.length x0) (0 : Int)) : List Int) = (copyTo 0 x0 (0)) from by first | with_reducible rfl | (exact copyTo_zero) | rfl) (show (0 : Int) = (((0) : Nat) : Int) from by first | with_reducible rfl | (exact copyTo_zero) | rfl)) (by first | omega | simp | (refine ⟨?_, ?_⟩ <;> first | omega | simp)) ?_
 intro i a w hok0 h
 refine wp_seq (wp_seq ?_)
 refine at_regq [] { ts := [0, 2, 3, 4, 11], os := [1] } [] gamOK hT h (by kernel_rfl) trivial fun a w h => then_normal ?_
 refine at_test (decide (((i : Nat) : Int) < ((List.length x0 : Nat) : Int))) h (by kernel_rfl) (fun h1 => ?_) (fun h1 => ?_)
 ·replace h1 : ((i : Nat) : Int) < ((List.length x0 : Nat) : Int) := of_decide_eq_true h1
  have hat := ctL_at_le (c := Sh.sz (.int 3)) (xs := x0) (z := 0) (i := i) (by omega)
  refine wp_skip (then_normal (wp_seq (wp_block ?_)))
  refine at_regq [] { ts := [0, 2, 3, 4], os := [1] } [(0 : Int) ≤ ((i : Nat) : Int) ∧ ((i : Nat) : Int) < ((List.length x0 : Nat) : Int), (0 : Int) ≤ ((i : Nat) : Int) ∧ ((i : Nat) : Int) < ((List.length (copyTo 0 x0 i) : Nat) : Int), i < List.length (copyTo 0 x0 i)] gamOK hT h (by kernel_rfl) ⟨(by refine ⟨?_, ?_⟩ <;> (first | omega | (simp only [lsA, copyTo_len hok0]; omega) | (simp <;> omega))), (by refine ⟨?_, ?_⟩ <;> (first | omega | (simp only [lsA, copyTo_len hok0]; omega) | (simp <;> omega))), (by first | omega | (simp only [lsA, copyTo_len hok0]; omega) | (simp <;> omega)), trivial⟩ fun a w h => in_normal (then_normal ?_)
  refine at_regq [{}, { nw := true }] { ts := [0, 2, 3, 4], os := [1] } [I64 (((i : Nat) : Int) + 1)] gamOK hT h (by kernel_rfl) ⟨⟨by first | omega | (simp only [lsA, copyTo_len hok0]; omega) | (simp <;> omega), by first | omega | (simp only [lsA, copyTo_len hok0]; omega) | (simp <;> omega)⟩, trivial⟩ fun a w h => ?_
  replace h := at_out (σ' := ⟨[(0, aF (.int 3) x0), (2, .p (.c (cN))), (3, aS 1), (4, aI (((i : Nat) : Int) + 1))], [(1, oR (.int 3) (List.set (copyTo 0 x0 i) i (x0.getD i 0)))]⟩) { ts := [0, 2, 3, 4], os := [1] } h (by kernel_rfl)
  exact ⟨i + 1, at_eq h (st_congr2 (fun (d0 : List Int) (d1 : Int) => (⟨[(0, aF (.int 3) x0), (2, .p (.c (cN))), (3, aS 1), (4, aI d1)], [(1, oR (.int 3) d0)]⟩ : St)) (show ((List.set (copyTo 0 x0 i) i (x0.getD i 0)) : List Int) = (copyTo 0 x0 (i + 1)) from by first | with_reducible rfl | (exact copyTo_set (by omega)) | rfl) (show (((i : Nat) : Int) + 1 : Int) = (((i + 1) : Nat) : Int) from by first | with_reducible rfl | (omega) | rfl)), (by first | omega | (refine ⟨?_, ?_⟩ <;> omega)), (by omega)⟩
 ·replace h1 : ¬ (((i : Nat) : Int) < ((List.length x0 : Nat) : Int)) := of_decide_eq_false h1
  refine wp_exit (then_exit (then_exit (in_hit (then_normal (wp_seq ?_)))))
  refine at_regq [] { ts := [2], os := [1] } [] gamOK hT h (by kernel_rfl) trivial fun a w h => then_normal (wp_ret ?_)
  exact at_return ((copyTo 0 x0 i), ()) [] h (by kernel_rfl) trivial (congrArg (fun z => (z, ())) (show ((copyTo 0 x0 i)) = (idD s22) x0 from by (rw [copyTo_all (by omega)]; rfl)))

def S_laws_toIntSS : Sum := { fid := 57, dom := [s55], cod := [s55], dp := true, fz := false, pre := fun x => (pTo s55) x.1, g := fun x => (((idD s55) x.1), ()) }
def S_laws_toIntSS_tab : List (Nat × Sum) := [(18, S_laws_toIntS)]
theorem S_laws_toIntSS_ok : FnOK Tryz.prog 57 S_laws_toIntSS := by
 refine at_enter 23 (fun x => ⟨[(0, aF s22 x.1)], []⟩) Tryz.func57 rfl (by kernel_rfl) (fun x => rfl) ?_
 rintro w0 Z0 ⟨x0, u⟩ a w
 revert x0
 intro (x0 : (List (List Int))) hpre hlens h
 replace hpre : (pTo s55) x0 := hpre
 have hl1 : List.length x0 ≤ 9223372036854775807 := hlens.1.1
 have hT : TabOK Tryz.prog S_laws_toIntSS_tab := (.cons S_laws_toIntS_ok .nil)
 have hp : Sh.sz s55 x0 ≤ 1048576 := hpre
 have hsz : Sh.sz s55 x0 = List.length x0 + ctL (Sh.sz s22) x0 := rfl
 refine wp_seq ?_
 refine at_regq [] { ts := [0, 2], os := [] } [] gamOK hT h (by kernel_rfl) trivial fun a w h => then_normal (wp_seq ?_)
 refine at_regq [{}, {}, { ids := [1] }] { ts := [0, 2, 3], os := [1] } [(0 : Int) ≤ ((List.length x0 : Nat) : Int) ∧ ((List.length x0 : Nat) : Int) = ((List.length x0 : Nat) : Int) ∧ ((List.length x0 : Nat) : Int) * (24 : Nat) ≤ (140737488355328 : Int)] gamOK hT h (by kernel_rfl) ⟨(by refine ⟨?_, ?_, ?_⟩ <;> ((have hA0 := mul_f ((List.length x0 : Nat) : Int) (24 : Nat); first | omega | (simp only [lsA, copyTo_len hok0]; omega) | (simp <;> omega)))), trivial⟩ fun a w h => then_normal (wp_seq (wp_seq ?_))
 refine at_regq [] { ts := [0, 2, 3, 4], os := [1] } [] gamOK hT h (by kernel_rfl) trivial fun a w h => then_normal (wp_block ?_)
 replace h := at_out (σ' := ⟨[(0, aF s22 x0), (2, .p (.c (cN))), (3, aS 1), (4, aI 0)], [(1, oR s22 (List.replicate (List.length x0) ([] : (List Int))))]⟩) { ts := [0, 2, 3, 4], os := [1] } h (by kernel_rfl)
 refine at_loop (fun i : Nat => (⟨[(0, aF s22 x0), (2, .p (.c (cN))), (3, aS 1), (4, aI ((i : Nat) : Int))], [(1, oR s22 (copyTo [] x0 i))]⟩ : St)) (fun i => i ≤ List.length x0) (fun i => List.length x0 - i) (0) h (st_congr2 (fun (d0 : List (List Int)) (d1 : Int) => (⟨[(0, aF s22 x0), (2, .p (.c (cN))), (3, aS 1), (4, aI d1)], [(1, oR s22 d0)]⟩ : St)) (show ((List.replicate (List.length x0) ([] : (List Int))) : List (List Int)) = (copyTo [] x0 (0)) from by first | with_reducible rfl | (exact copyTo_zero) | rfl) (show (0 : Int) = (((0) : Nat) : Int) from by first | with_reducible rfl | (exact copyTo_zero) | rfl)) (by first | omega | simp | (refine ⟨?_, ?_⟩ <;> first | omega | simp)) ?_
 intro i a w hok0 h
 refine wp_seq (wp_seq ?_)
 refine at_regq [] { ts := [0, 2, 3, 4, 11], os := [1] } [] gamOK hT h (by kernel_rfl) trivial fun a w h => then_normal ?_
 refine at_test (decide (((i : Nat) : Int) < ((List.length x0 : Nat) : Int))) h (by kernel_rfl) (fun h1 => ?_) (fun h1 => ?_)
 ·replace h1 : ((i : Nat) : Int) < ((List.length x0 : Nat) : Int) := of_decide_eq_true h1
  have hat := ctL_at_le (c := Sh.sz s22) (xs := x0) (z := []) (i := i) (by omega)
  refine wp_skip (then_normal (wp_seq (wp_block ?_)))
  refine at_regq [{}, {}, {}, {}, {}, {}, { ids := [2] }] { ts := [0, 2, 3, 4], os := [1] } [(0 : Int) ≤ ((i : Nat) : Int) ∧ ((i : Nat) : Int) < ((List.length x0 : Nat) : Int), (pTo s22) (x0.getD i []), (0 : Int) ≤ ((i : Nat) : Int) ∧ ((i : Nat) : Int) < ((List.length (copyTo [] x0 i) : Nat) : Int), i < List.length (copyTo [] x0 i)] gamOK hT h (by kernel_rfl) ⟨(by refine ⟨?_, ?_⟩ <;> (first | omega | (simp only [lsA, copyTo_len hok0]; omega) | (simp <;> omega))), (by (show Sh.sz _ _ ≤ 1048576; omega)), (by refine ⟨?_, ?_⟩ <;> (first | omega | (simp only [lsA, copyTo_len hok0]; omega) | (simp <;> omega))), (by first | omega | (simp only [lsA, copyTo_len hok0]; omega) | (simp <;> omega)), trivial⟩ fun a w h => in_normal (then_normal ?_)
  refine at_regq [{}, { nw := true }] { ts := [0, 2, 3, 4], os := [1] } [I64 (((i : Nat) : Int) + 1)] gamOK hT h (by kernel_rfl) ⟨⟨by first | omega | (simp only [lsA, copyTo_len hok0]; omega) | (simp <;> omega), by first | omega | (simp only [lsA, copyTo_len hok0]; omega) | (simp <;> omega)⟩, trivial⟩ fun a w h => ?_
  replace h := at_out (σ' := ⟨[(0, aF s22 x0), (2, .p (.c (cN))), (3, aS 1), (4, aI (((i : Nat) : Int) + 1))], [(1, oR s22 (List.set (copyTo [] x0 i) i (x0.getD i [])))]⟩) { ts := [0, 2, 3, 4], os := [1] } h (by kernel_rfl)
  exact ⟨i + 1, at_eq h (st_congr2 (fun (d0 : List (List Int)) (d1 : Int) => (⟨[(0, aF s22 x0), (2, .p (.c (cN))), (3, aS 1), (4, aI d1)], [(1, oR s22 d0)]⟩ : St)) (show ((List.set (copyTo [] x0 i) i (x0.getD i [])) : List (List Int)) = (copyTo [] x0 (i + 1)) from by first | with_reducible rfl | (exact copyTo_set (by omega)) | rfl) (show (((i : Nat) : Int) + 1 : Int) = (((i + 1) : Nat) : Int) from by first | with_reducible rfl | (omega) | rfl)), (by first | omega | (refine ⟨?_, ?_⟩ <;> omega)), (by omega)⟩
 ·replace h1 : ¬ (((i : Nat) : Int) < ((List.length x0 : Nat) : Int)) := of_decide_eq_false h1
  refine wp_exit (then_exit (then_exit (in_hit (then_normal (wp_seq ?_)))))
  refine at_regq [] { ts := [2], os := [1] } [] gamOK hT h (by kernel_rfl) trivial fun a w h => then_normal (wp_ret ?_)
  exact at_return ((copyTo [] x0 i), ()) [] h (by kernel_rfl) trivial (congrArg (fun z => (z, ())) (show ((copyTo [] x0 i)) = (idD s55) x0 from by (rw [copyTo_all (by omega)]; rfl)))

def S_laws_toBasis : Sum := { fid := 56, dom := [s57], cod := [s67], dp := true, fz := false, pre := fun x => (pTo s57) x.1, g := fun x => (((idD s57) x.1), ()) }
def S_laws_toBasis_tab : List (Nat × Sum) := [(57, S_laws_toIntSS)]
theorem S_laws_toBasis_ok : FnOK Tryz.prog 56 S_laws_toBasis := by
 refine at_enter 12 (fun x => ⟨[(0, aG [cI x.1.1, .ro s22 x.1.2])], []⟩) Tryz.func56 rfl (by kernel_rfl) (fun x => rfl) ?_
 rintro w0 Z0 ⟨x0, u⟩ a w
 revert x0
 intro (x0 : T57) hpre hlens h
 replace hpre : (pTo s57) x0 := hpre
 have hl1 : List.length x0.2 ≤ 9223372036854775807 := hlens.1.2.1
 have hT : TabOK Tryz.prog S_laws_toBasis_tab := (.cons S_laws_toIntSS_ok .nil)
 have hp : Sh.sz s57 x0 ≤ 1048576 := hpre
 have hsz : Sh.sz s57 x0 = (0 + (Sh.sz s55 x0.2)) := rfl
 refine wp_seq ?_
 refine at_regq [{ ids := [1] }, { ids := [2] }] { ts := [1, 2], os := [1, 2] } [] gamOK hT h (by kernel_rfl) trivial fun a w h => then_normal (wp_seq ?_)
 refine at_regq [{ ids := [3] }] { ts := [1, 2, 3], os := [1, 2, 3] } [] gamOK hT h (by kernel_rfl) trivial fun a w h => then_normal (wp_seq ?_)
 refine at_regq [] { ts := [1, 2, 3], os := [1, 2, 3] } [] gamOK hT h (by kernel_rfl) trivial fun a w h => then_normal (wp_seq ?_)
 refine at_regq [{}, {}, { ids := [4] }] { ts := [2, 3], os := [2, 3, 4] } [(pTo s55) x0.2] gamOK hT h (by kernel_rfl) ⟨(by (show Sh.sz _ _ ≤ 1048576; first | omega | (show (0 : Nat) ≤ 1048576; decide))), trivial⟩ fun a w h => then_normal (wp_seq ?_)
 refine at_regq [] { ts := [2], os := [2, 4] } [] gamOK hT h (by kernel_rfl) trivial fun a w h => then_normal (wp_ret ?_)
 exact at_return (x0, ()) [] h (by kernel_rfl) trivial (congrArg (fun z => (z, ())) (show (x0) = (idD s57) x0 from by rfl))

def S_laws_toDecoder : Sum := { fid := 35, dom := [s59], cod := [s69], dp := true, fz := false, pre := fun x => (pTo s59) x.1, g := fun x => (((idD s59) x.1), ()) }
def S_laws_toDecoder_tab : List (Nat × Sum) := [(56, S_laws_toBasis)]
theorem S_laws_toDecoder_ok : FnOK Tryz.prog 35 S_laws_toDecoder := by
 refine at_enter 18 (fun x => ⟨[(0, aG [cI x.1.1, cI x.1.2.1, cI x.1.2.2.1, cI x.1.2.2.2.1, .ro s22 x.1.2.2.2.2])], []⟩) Tryz.func35 rfl (by kernel_rfl) (fun x => rfl) ?_
 rintro w0 Z0 ⟨x0, u⟩ a w
 revert x0
 intro (x0 : T59) hpre hlens h
 replace hpre : (pTo s59) x0 := hpre
 have hl1 : List.length x0.2.2.2.2 ≤ 9223372036854775807 := hlens.1.2.2.2.2.1
 have hT : TabOK Tryz.prog S_laws_toDecoder_tab := (.cons S_laws_toBasis_ok .nil)
 have hp : Sh.sz s59 x0 ≤ 1048576 := hpre
 have hsz : Sh.sz s59 x0 = (0 + (0 + (0 + (Sh.sz s57 x0.2.2.2)))) := rfl
 refine wp_seq ?_
 refine at_regq [{ ids := [1] }, { ids := [2] }] { ts := [1, 2], os := [1, 2] } [] gamOK hT h (by kernel_rfl) trivial fun a w h => then_normal (wp_seq ?_)
 refine at_regq [{ ids := [3] }] { ts := [1, 2, 3], os := [1, 2, 3] } [] gamOK hT h (by kernel_rfl) trivial fun a w h => then_normal (wp_seq ?_)
 refine at_regq [] { ts := [1, 2, 3], os := [1, 2, 3] } [] gamOK hT h (by kernel_rfl) trivial fun a w h => then_normal (wp_seq ?_)
 refine at_regq [] { ts := [1, 2, 3], os := [1, 2, 3] } [] gamOK hT h (by kernel_rfl) trivial fun a w h => then_normal (wp_seq ?_)
 refine at_regq [] { ts := [1, 2, 3], os := [1, 2, 3] } [] gamOK hT h (by kernel_rfl) trivial fun a w h => then_normal (wp_seq ?_)
 refine at_regq [{}, {}, { ids := [4] }] { ts := [2, 3], os := [2, 3, 4] } [(pTo s57) x0.2.2.2] gamOK hT h (by kernel_rfl) ⟨(by (show Sh.sz _ _ ≤ 1048576; first | omega | (show (0 : Nat) ≤ 1048576; decide))), trivial⟩ fun a w h => then_normal (wp_seq ?_)
 refine at_regq [] { ts := [2], os := [2, 4] } [] gamOK hT h (by kernel_rfl) trivial fun a w h => then_normal (wp_ret ?_)
 exact at_return (x0, ()) [] h (by kernel_rfl) trivial (congrArg (fun z => (z, ())) (show (x0) = (idD s59) x0 from by rfl))

def S_laws_toDecoderS : Sum := { fid := 19, dom := [s23], cod := [s31], dp := true, fz := false, pre := fun x => (pTo s23) x.1, g := fun x => (((idD s23) x.1), ()) }
def S_laws_toDecoderS_tab : List (Nat × Sum) := [(35, S_laws_toDecoder)]
theorem S_laws_toDecoderS_ok : FnOK Tryz.prog 19 S_laws_toDecoderS := by
 refine at_enter 23 (fun x => ⟨[(0, aF s59 x.1)], []⟩) Tryz.func19 rfl (by kernel_rfl) (fun x => rfl) ?_
 rintro w0 Z0 ⟨x0, u⟩ a w
 revert x0
 intro (x0 : (List T59)) hpre hlens h
 replace hpre : (pTo s23) x0 := hpre
 have hl1 : List.length x0 ≤ 9223372036854775807 := hlens.1.1
 have hT : TabOK Tryz.prog S_laws_toDecoderS_tab := (.cons S_laws_toDecoder_ok .nil)
 have hp : Sh.sz s23 x0 ≤ 1048576 := hpre
 have hsz : Sh.sz s23 x0 = List.length x0 + ctL (Sh.sz s59) x0 := rfl
 refine wp_seq ?_
 refine at_regq [] { ts := [0, 2], os := [] } [] gamOK hT h (by kernel_rfl) trivial fun a w h => then_normal (wp_seq ?_)
 refine at_regq [{}, {}, { ids := [1] }] { ts := [0, 2, 3], os := [1] } [(0 : Int) ≤ ((List.length x0 : Nat) : Int) ∧ ((List.length x0 : Nat) : Int) = ((List.length x0 : Nat) : Int) ∧ ((List.length x0 : Nat) : Int) * (56 : Nat) ≤ (140737488355328 : Int)] gamOK hT h (by kernel_rfl) ⟨(by refine ⟨?_, ?_, ?_⟩ <;> ((have hA0 := mul_f ((List.length x0 : Nat) : Int) (56 : Nat); first | omega | (simp only [lsA, copyTo_len hok0]; omega) | (simp <;> omega)))), trivial⟩ fun a w h => then_normal (wp_seq (wp_seq ?_))
 refine at_regq [] { ts := [0, 2, 3, 4], os := [1] } [] gamOK hT h (by kernel_rfl) trivial fun a w h => then_normal (wp_block ?_)
 replace h := at_out (σ' := ⟨[(0, aF s59 x0), (2, .p (.c (cN))), (3, aS 1), (4, aI 0)], [(1, oR s69 (List.replicate (List.length x0) ((0, (0, (0, (0, [])))) : T69)))]⟩) { ts := [0, 2, 3, 4], os := [1] } h (by kernel_rfl)
 refine at_loop (fun i : Nat => (⟨[(0, aF s59 x0), (2, .p (.c (cN))), (3, aS 1), (4, aI ((i : Nat) : Int))], [(1, oR s69 (copyTo (0, (0, (0, (0, [])))) x0 i))]⟩ : St)) (fun i => i ≤ List.length x0) (fun i => List.length x0 - i) (0) h (st_congr2 (fun (d0 : List T69) (d1 : Int) => (⟨[(0, aF s59 x0), (2, .p (.c (cN))), (3, aS 1), (4, aI d1)], [(1, oR s69 d0)]⟩ : St)) (show ((List.replicate (List.length x0) ((0, (0, (0, (0, [])))) : T69)) : List T69) = (copyTo (0, (0, (0, (0, [])))) x0 (0)) from by first | with_reducible rfl | (exact copyTo_zero) | rfl) (show (0 : Int) = (((0) : Nat) : Int) from by first | with_reducible rfl | (exact copyTo_zero) | rfl)) (by first | omega | simp | (refine ⟨?_, ?_⟩ <;> first | omega | simp)) ?_
 intro i a w hok0 h
 refine wp_seq (wp_seq ?_)
 refine at_regq [] { ts := [0, 2, 3, 4, 11], os := [1] } [] gamOK hT h (by kernel_rfl) trivial fun a w h => then_normal ?_
 refine at_test (decide (((i : Nat) : Int) < ((List.length x0 : Nat) : Int))) h (by kernel_rfl) (fun h1 => ?_) (fun h1 => ?_)
 ·replace h1 : ((i : Nat) : Int) < ((List.length x0 : Nat) : Int) := of_decide_eq_true h1
  have hat := ctL_at_le (c := Sh.sz s59) (xs := x0) (z := (0, (0, (0, (0, []))))) (i := i) (by omega)
  refine wp_skip (then_normal (wp_seq (wp_block ?_)))
  refine at_regq [{}, {}, {}, {}, {}, {}, { ids := [2] }] { ts := [0, 2, 3, 4], os := [1] } [(0 : Int) ≤ ((i : Nat) : Int) ∧ ((i : Nat) : Int) < ((List.length x0 : Nat) : Int), (pTo s59) (x0.getD i (0, (0, (0, (0, []))))), (0 : Int) ≤ ((i : Nat) : Int) ∧ ((i : Nat) : Int) < ((List.length (copyTo (0, (0, (0, (0, [])))) x0 i) : Nat) : Int), i < List.length (copyTo (0, (0, (0, (0, [])))) x0 i)] gamOK hT h (by kernel_rfl) ⟨(by refine ⟨?_, ?_⟩ <;> (first | omega | (simp only [lsA, copyTo_len hok0]; omega) | (simp <;> omega))), (by (show Sh.sz _ _ ≤ 1048576; omega)), (by refine ⟨?_, ?_⟩ <;> (first | omega | (simp only [lsA, copyTo_len hok0]; omega) | (simp <;> omega))), (by first | omega | (simp only [lsA, copyTo_len hok0]; omega) | (simp <;> omega)), trivial⟩ fun a w h => in_normal (then_normal ?_)
  refine at_regq [{}, { nw := true }] { ts := [0, 2, 3, 4], os := [1] } [I64 (((i : Nat) : Int) + 1)] gamOK hT h (by kernel_rfl) ⟨⟨by first | omega | (simp only [lsA, copyTo_len hok0]; omega) | (simp <;> omega), by first | omega | (simp only [lsA, copyTo_len hok0]; omega) | (simp <;> omega)⟩, trivial⟩ fun a w h => ?_
  replace h := at_out (σ' := ⟨[(0, aF s59 x0), (2, .p (.c (cN))), (3, aS 1), (4, aI (((i : Nat) : Int) + 1))], [(1, oR s69 (List.set (copyTo (0, (0, (0, (0, [])))) x0 i) i (x0.getD i (0, (0, (0, (0, [])))))))]⟩) { ts := [0, 2, 3, 4], os := [1] } h (by kernel_rfl)
  exact ⟨i + 1, at_eq h (st_congr2 (fun (d0 : List T69) (d1 : Int) => (⟨[(0, aF s59 x0), (2, .p (.c (cN))), (3, aS 1), (4, aI d1)], [(1, oR s69 d0)]⟩ : St)) (show ((List.set (copyTo (0, (0, (0, (0, [])))) x0 i) i (x0.getD i (0, (0, (0, (0, [])))))) : List T69) = (copyTo (0, (0, (0, (0, [])))) x0 (i + 1)) from by first | with_reducible rfl | (exact copyTo_set (by omega)) | rfl) (show (((i : Nat) : Int) + 1 : Int) = (((i + 1) : Nat) : Int) from by first | with_reducible rfl | (omega) | rfl)), (by first | omega | (refine ⟨?_, ?_⟩ <;> omega)), (by omega)⟩
 ·replace h1 : ¬ (((i : Nat) : Int) < ((List.length x0 : Nat) : Int)) := of_decide_eq_false h1
  refine wp_exit (then_exit (then_exit (in_hit (then_normal (wp_seq ?_)))))
  refine at_regq [] { ts := [2], os := [1] } [] gamOK hT h (by kernel_rfl) trivial fun a w h => then_normal (wp_ret ?_)
  exact at_return ((copyTo (0, (0, (0, (0, [])))) x0 i), ()) [] h (by kernel_rfl) trivial (congrArg (fun z => (z, ())) (show ((copyTo (0, (0, (0, (0, [])))) x0 i)) = (idD s23) x0 from by (rw [copyTo_all (by omega)]; rfl)))

def S_laws_toGeneration : Sum := { fid := 36, dom := [s62], cod := [s64], dp := true, fz := false, pre := fun x => (pTo s62) x.1, g := fun x => (((idD s62) x.1), ()) }
def S_laws_toGeneration_tab : List (Nat × Sum) := [(57, S_laws_toIntSS)]
theorem S_laws_toGeneration_ok : FnOK Tryz.prog 36 S_laws_toGeneration := by
 refine at_enter 12 (fun x => ⟨[(0, aG [cI x.1.1, .ro s22 x.1.2])], []⟩) Tryz.func36 rfl (by kernel_rfl) (fun x => rfl) ?_
 rintro w0 Z0 ⟨x0, u⟩ a w
 revert x0
 intro (x0 : T62) hpre hlens h
 replace hpre : (pTo s62) x0 := hpre
 have hl1 : List.length x0.2 ≤ 9223372036854775807 := hlens.1.2.1
 have hT : TabOK Tryz.prog S_laws_toGeneration_tab := (.cons S_laws_toIntSS_ok .nil)
 have hp : Sh.sz s62 x0 ≤ 1048576 := hpre
 have hsz : Sh.sz s62 x0 = (0 + (Sh.sz s55 x0.2)) := rfl
 refine wp_seq ?_
 refine at_regq [{ ids := [1] }, { ids := [2] }] { ts := [1, 2], os := [1, 2] } [] gamOK hT h (by kernel_rfl) trivial fun a w h => then_normal (wp_seq ?_)
 refine at_regq [{ ids := [3] }] { ts := [1, 2, 3], os := [1, 2, 3] } [] gamOK hT h (by kernel_rfl) trivial fun a w h => then_normal (wp_seq ?_)
 refine at_regq [] { ts := [1, 2, 3], os := [1, 2, 3] } [] gamOK hT h (by kernel_rfl) trivial fun a w h => then_normal (wp_seq ?_)
 refine at_regq [{}, {}, { ids := [4] }] { ts := [2, 3], os := [2, 3, 4] } [(pTo s55) x0.2] gamOK hT h (by kernel_rfl) ⟨(by (show Sh.sz _ _ ≤ 1048576; first | omega | (show (0 : Nat) ≤ 1048576; decide))), trivial⟩ fun a w h => then_normal (wp_seq ?_)
 refine at_regq [] { ts := [2], os := [2, 4] } [] gamOK hT h (by kernel_rfl) trivial fun a w h => then_normal (wp_ret ?_)
 exact at_return (x0, ()) [] h (by kernel_rfl) trivial (congrArg (fun z => (z, ())) (show (x0) = (idD s62) x0 from by rfl))

def S_laws_toGenerationS : Sum := { fid := 20, dom := [s24], cod := [s32], dp := true, fz := false, pre := fun x => (pTo s24) x.1, g := fun x => (((idD s24) x.1), ()) }
def S_laws_toGenerationS_tab : List (Nat × Sum) := [(36, S_laws_toGeneration)]
theorem S_laws_toGenerationS_ok : FnOK Tryz.prog 20 S_laws_toGenerationS := by
 refine at_enter 23 (fun x => ⟨[(0, aF s62 x.1)], []⟩) Tryz.func20 rfl (by kernel_rfl) (fun x => rfl) ?_
 rintro w0 Z0 ⟨x0, u⟩ a w
 revert x0
 intro (x0 : (List T62)) hpre hlens h
 replace hpre : (pTo s24) x0 := hpre
 have hl1 : List.length x0 ≤ 9223372036854775807 := hlens.1.1
 have hT : TabOK Tryz.prog S_laws_toGenerationS_tab := (.cons S_laws_toGeneration_ok .nil)
 have hp : Sh.sz s24 x0 ≤ 1048576 := hpre
 have hsz : Sh.sz s24 x0 = List.length x0 + ctL (Sh.sz s62) x0 := rfl
 refine wp_seq ?_
 refine at_regq [] { ts := [0, 2], os := [] } [] gamOK hT h (by kernel_rfl) trivial fun a w h => then_normal (wp_seq ?_)
 refine at_regq [{}, {}, { ids := [1] }] { ts := [0, 2, 3], os := [1] } [(0 : Int) ≤ ((List.length x0 : Nat) : Int) ∧ ((List.length x0 : Nat) : Int) = ((List.length x0 : Nat) : Int) ∧ ((List.length x0 : Nat) : Int) * (32 : Nat) ≤ (140737488355328 : Int)] gamOK hT h (by kernel_rfl) ⟨(by refine ⟨?_, ?_, ?_⟩ <;> ((have hA0 := mul_f ((List.length x0 : Nat) : Int) (32 : Nat); first | omega | (simp only [lsA, copyTo_len hok0]; omega) | (simp <;> omega)))), trivial⟩ fun a w h => then_normal (wp_seq (wp_seq ?_))
 refine at_regq [] { ts := [0, 2, 3, 4], os := [1] } [] gamOK hT h (by kernel_rfl) trivial fun a w h => then_normal (wp_block ?_)
 replace h := at_out (σ' := ⟨[(0, aF s62 x0), (2, .p (.c (cN))), (3, aS 1), (4, aI 0)], [(1, oR s64 (List.replicate (List.length x0) ((0, []) : T64)))]⟩) { ts := [0, 2, 3, 4], os := [1] } h (by kernel_rfl)
 refine at_loop (fun i : Nat => (⟨[(0, aF s62 x0), (2, .p (.c (cN))), (3, aS 1), (4, aI ((i : Nat) : Int))], [(1, oR s64 (copyTo (0, []) x0 i))]⟩ : St)) (fun i => i ≤ List.length x0) (fun i => List.length x0 - i) (0) h (st_congr2 (fun (d0 : List T64) (d1 : Int) => (⟨[(0, aF s62 x0), (2, .p (.c (cN))), (3, aS 1), (4, aI d1)], [(1, oR s64 d0)]⟩ : St)) (show ((List.replicate (List.length x0) ((0, []) : T64)) : List T64) = (copyTo (0, []) x0 (0)) from by first | with_reducible rfl | (exact copyTo_zero) | rfl) (show (0 : Int) = (((0) : Nat) : Int) from by first | with_reducible rfl | (exact copyTo_zero) | rfl)) (by first | omega | simp | (refine ⟨?_, ?_⟩ <;> first | omega | simp)) ?_
 intro i a w hok0 h
 refine wp_seq (wp_seq ?_)
 refine at_regq [] { ts := [0, 2, 3, 4, 11], os := [1] } [] gamOK hT h (by kernel_rfl) trivial fun a w h => then_normal ?_
 refine at_test (decide (((i : Nat) : Int) < ((List.length x0 : Nat) : Int))) h (by kernel_rfl) (fun h1 => ?_) (fun h1 => ?_)
 ·replace h1 : ((i : Nat) : Int) < ((List.length x0 : Nat) : Int) := of_decide_eq_true h1
  have hat := ctL_at_le (c := Sh.sz s62) (xs := x0) (z := (0, [])) (i := i) (by omega)
  refine wp_skip (then_normal (wp_seq (wp_block ?_)))
  refine at_regq [{}, {}, {}, {}, {}, {}, { ids := [2] }] { ts := [0, 2, 3, 4], os := [1] } [(0 : Int) ≤ ((i : Nat) : Int) ∧ ((i : Nat) : Int) < ((List.length x0 : Nat) : Int), (pTo s62) (x0.getD i (0, [])), (0 : Int) ≤ ((i : Nat) : Int) ∧ ((i : Nat) : Int) < ((List.length (copyTo (0, []) x0 i) : Nat) : Int), i < List.length (copyTo (0, []) x0 i)] gamOK hT h (by kernel_rfl) ⟨(by refine ⟨?_, ?_⟩ <;> (first | omega | (simp only [lsA, copyTo_len hok0]; omega) | (simp <;> omega))), (by (show Sh.sz _ _ ≤ 1048576; omega)), (by refine ⟨?_, ?_⟩ <;> (first | omega | (simp only [lsA, copyTo_len hok0]; omega) | (simp <;> omega))), (by first | omega | (simp only [lsA, copyTo_len hok0]; omega) | (simp <;> omega)), trivial⟩ fun a w h => in_normal (then_normal ?_)
  refine at_regq [{}, { nw := true }] { ts := [0, 2, 3, 4], os := [1] } [I64 (((i : Nat) : Int) + 1)] gamOK hT h (by kernel_rfl) ⟨⟨by first | omega | (simp only [lsA, copyTo_len hok0]; omega) | (simp <;> omega), by first | omega | (simp only [lsA, copyTo_len hok0]; omega) | (simp <;> omega)⟩, trivial⟩ fun a w h => ?_
  replace h := at_out (σ' := ⟨[(0, aF s62 x0), (2, .p (.c (cN))), (3, aS 1), (4, aI (((i : Nat) : Int) + 1))], [(1, oR s64 (List.set (copyTo (0, []) x0 i) i (x0.getD i (0, []))))]⟩) { ts := [0, 2, 3, 4], os := [1] } h (by kernel_rfl)
  exact ⟨i + 1, at_eq h (st_congr2 (fun (d0 : List T64) (d1 : Int) => (⟨[(0, aF s62 x0), (2, .p (.c (cN))), (3, aS 1), (4, aI d1)], [(1, oR s64 d0)]⟩ : St)) (show ((List.set (copyTo (0, []) x0 i) i (x0.getD i (0, []))) : List T64) = (copyTo (0, []) x0 (i + 1)) from by first | with_reducible rfl | (exact copyTo_set (by omega)) | rfl) (show (((i : Nat) : Int) + 1 : Int) = (((i + 1) : Nat) : Int) from by first | with_reducible rfl | (omega) | rfl)), (by first | omega | (refine ⟨?_, ?_⟩ <;> omega)), (by omega)⟩
 ·replace h1 : ¬ (((i : Nat) : Int) < ((List.length x0 : Nat) : Int)) := of_decide_eq_false h1
  refine wp_exit (then_exit (then_exit (in_hit (then_normal (wp_seq ?_)))))
  refine at_regq [] { ts := [2], os := [1] } [] gamOK hT h (by kernel_rfl) trivial fun a w h => then_normal (wp_ret ?_)
  exact at_return ((copyTo (0, []) x0 i), ()) [] h (by kernel_rfl) trivial (congrArg (fun z => (z, ())) (show ((copyTo (0, []) x0 i)) = (idD s24) x0 from by (rw [copyTo_all (by omega)]; rfl)))

def S_laws_toSink : Sum := { fid := 6, dom := [s26], cod := [s34], dp := true, fz := false, pre := fun x => (pTo s26) x.1, g := fun x => (((idD s26) x.1), ()) }
def S_laws_toSink_tab : List (Nat × Sum) := [(18, S_laws_toIntS), (19, S_laws_toDecoderS), (20, S_laws_toGenerationS)]
theorem S_laws_toSink_ok : FnOK Tryz.prog 6 S_laws_toSink := by
 refine at_enter 26 (fun x => ⟨[(0, aG [cI x.1.1, cI x.1.2.1, .ro (.int 3) x.1.2.2.1, .ro s59 x.1.2.2.2.1, .ro s62 x.1.2.2.2.2.1, cI x.1.2.2.2.2.2])], []⟩) Tryz.func6 rfl (by kernel_rfl) (fun x => rfl) ?_
 rintro w0 Z0 ⟨x0, u⟩ a w
 revert x0
 intro (x0 : T26) hpre hlens h
 replace hpre : (pTo s26) x0 := hpre
 have hl1 : List.length x0.2.2.1 ≤ 9223372036854775807 := hlens.1.2.2.1.1
 have hl2 : List.length x0.2.2.2.1 ≤ 9223372036854775807 := hlens.1.2.2.2.1.1
 have hl3 : List.length x0.2.2.2.2.1 ≤ 9223372036854775807 := hlens.1.2.2.2.2.1.1
 have hT : TabOK Tryz.prog S_laws_toSink_tab := (.cons S_laws_toIntS_ok (.cons S_laws_toDecoderS_ok (.cons S_laws_toGenerationS_ok .nil)))
 have hp : Sh.sz s26 x0 ≤ 1048576 := hpre
 have hsz : Sh.sz s26 x0 = (0 + (0 + ((Sh.sz s22 x0.2.2.1) + ((Sh.sz s23 x0.2.2.2.1) + ((Sh.sz s24 x0.2.2.2.2.1) + 0))))) := rfl
 refine wp_seq ?_
 refine at_regq [{ ids := [1] }, { ids := [2] }] { ts := [1, 2], os := [1, 2] } [] gamOK hT h (by kernel_rfl) trivial fun a w h => then_normal (wp_seq ?_)
 refine at_regq [{ ids := [3] }] { ts := [1, 2, 3], os := [1, 2, 3] } [] gamOK hT h (by kernel_rfl) trivial fun a w h => then_normal (wp_seq ?_)
 refine at_regq [] { ts := [1, 2, 3], os := [1, 2, 3] } [] gamOK hT h (by kernel_rfl) trivial fun a w h => then_normal (wp_seq ?_)
 refine at_regq [] { ts := [1, 2, 3], os := [1, 2, 3] } [] gamOK hT h (by kernel_rfl) trivial fun a w h => then_normal (wp_seq ?_)
 refine at_regq [{}, {}, { ids := [4] }] { ts := [1, 2, 3], os := [1, 2, 3, 4] } [(pTo s22) x0.2.2.1] gamOK hT h (by kernel_rfl) ⟨(by (show Sh.sz _ _ ≤ 1048576; first | omega | (show (0 : Nat) ≤ 1048576; decide))), trivial⟩ fun a w h => then_normal (wp_seq ?_)
 refine at_regq [{}, {}, { ids := [5] }] { ts := [1, 2, 3], os := [1, 2, 3, 4, 5] } [(pTo s23) x0.2.2.2.1] gamOK hT h (by kernel_rfl) ⟨(by (show Sh.sz _ _ ≤ 1048576; first | omega | (show (0 : Nat) ≤ 1048576; decide))), trivial⟩ fun a w h => then_normal (wp_seq ?_)
 refine at_regq [{}, {}, { ids := [6] }] { ts := [1, 2, 3], os := [1, 2, 3, 4, 5, 6] } [(pTo s24) x0.2.2.2.2.1] gamOK hT h (by kernel_rfl) ⟨(by (show Sh.sz _ _ ≤ 1048576; first | omega | (show (0 : Nat) ≤ 1048576; decide))), trivial⟩ fun a w h => then_normal (wp_seq ?_)
 refine at_regq [] { ts := [2, 3], os := [2, 3, 4, 5, 6] } [] gamOK hT h (by kernel_rfl) trivial fun a w h => then_normal (wp_seq ?_)
 refine at_regq [] { ts := [2], os := [2, 4, 5, 6] } [] gamOK hT h (by kernel_rfl) trivial fun a w h => then_normal (wp_ret ?_)
 exact at_return (x0, ()) [] h (by kernel_rfl) trivial (congrArg (fun z => (z, ())) (show (x0) = (idD s26) x0 from by rfl))

section
variable {α β : Type}
theorem ctL_filter (c : α → Nat) (p : α → Bool) : ∀ xs : List α, ctL c (xs.filter p) ≤ ctL c xs
 | [] => Nat.le_refl _
 | x :: l => by
  have := ctL_filter c p l
  rw [List.filter_cons]
  split <;> simp only [ctL] <;> omega
theorem eqF_eqL {e : α → α → Bool} : ∀ {xs ys : List α}, eqF e xs ys = eqL e xs ys
 | [], [] => rfl
 | [], _ :: _ => rfl
 | _ :: _, [] => rfl
 | _ :: l, _ :: l' => by simp only [eqF, eqL, eqF_eqL (xs := l)]
def idxsTo (p : α → Bool) (z : α) (xs : List α) : Nat → List Int
 | 0 => []
 | i + 1 => bif p (xs.getD i z) then idxsTo p z xs i ++ [(i : Int)] else idxsTo p z xs i
theorem idxsTo_len {p : α → Bool} {z : α} {xs : List α} : ∀ {i : Nat}, (idxsTo p z xs i).length ≤ i
 | 0 => Nat.le_refl _
 | i + 1 => by
  have := idxsTo_len (p := p) (z := z) (xs := xs) (i := i)
  simp only [idxsTo]
  cases p (xs.getD i z) <;> simp <;> omega
theorem idxsTo_mem {p : α → Bool} {z : α} {xs : List α} {j : Nat} : ∀ {i : Nat}, ((j : Int) ∈ idxsTo p z xs i) ↔ (j < i ∧ p (xs.getD j z) = true)
 | 0 => by simp [idxsTo]
 | i + 1 => by
  have ih := idxsTo_mem (p := p) (z := z) (xs := xs) (j := j) (i := i)
  simp only [idxsTo]
  cases hp : p (xs.getD i z) with
  | true =>
   rw [cond_true, List.mem_append, ih, List.mem_singleton]
   constructor
   ·rintro (h | h)
    ·exact ⟨by omega, h.2⟩
    ·have : j = i := by omega
     subst this; exact ⟨by omega, hp⟩
   ·rintro ⟨h1, h2⟩
    by_cases e : j = i
    ·right; rw [e]
    ·left; exact ⟨by omega, h2⟩
  | false =>
   rw [cond_false, ih]
   constructor
   ·rintro ⟨h1, h2⟩; exact ⟨by omega, h2⟩
   ·rintro ⟨h1, h2⟩
    refine ⟨?_, h2⟩
    by_cases e : j = i
    ·subst e; rw [hp] at h2; cases h2
    ·omega
def remTo (z : α) (xs : List α) (ed : List Int) : Nat → List α
 | 0 => []
 | i + 1 => bif ed.any (fun e => decide ((i : Int) = e)) then remTo z xs ed i else remTo z xs ed i ++ [xs.getD i z]
theorem remTo_len {z : α} {xs : List α} {ed : List Int} : ∀ {i : Nat}, (remTo z xs ed i).length ≤ i
 | 0 => Nat.le_refl _
 | i + 1 => by
  have := remTo_len (z := z) (xs := xs) (ed := ed) (i := i)
  simp only [remTo]
  cases ed.any (fun e => decide ((i : Int) = e)) <;> simp <;> omega
theorem remTo_idxs {p : α → Bool} {z : α} {xs : List α} : ∀ {i n : Nat}, i ≤ n → n ≤ xs.length → remTo z xs (idxsTo p z xs n) i = (xs.take i).filter (fun e => !p e)
 | 0, _, _, _ => by simp [remTo]
 | i + 1, n, h, hn => by
  have ih := remTo_idxs (p := p) (z := z) (xs := xs) (i := i) (n := n) (by omega) hn
  have hm : (idxsTo p z xs n).any (fun e => decide ((i : Int) = e)) = p (xs.getD i z) := by
   rw [Bool.eq_iff_iff, List.any_eq_true]
   constructor
   ·rintro ⟨x, hx, he⟩
    have he := of_decide_eq_true he
    rw [← he] at hx
    exact (idxsTo_mem.1 hx).2
   ·intro hp
    exact ⟨(i : Int), idxsTo_mem.2 ⟨by omega, hp⟩, by simp⟩
  simp only [remTo, hm, ih]
  cases hp : p (xs.getD i z) with
  | true => rw [cond_true, filter_snoc_f (z := z) (by omega) (by simp only [hp]; rfl)]
  | false => rw [cond_false, filter_snoc_t (z := z) (by omega) (by simp only [hp]; rfl)]
end
def S_spec_EqualInts : Sum := { fid := 77, dom := [s22, s22], cod := [(.bool 4)], dp := true, fz := false, pre := fun x => True, g := fun x => (((Sh.eqB s22) x.1 x.2.1), ()) }
def S_spec_EqualInts_tab : List (Nat × Sum) := []
theorem S_spec_EqualInts_ok : FnOK Tryz.prog 77 S_spec_EqualInts := by
 refine at_enter 26 (fun x => ⟨[(0, aF (.int 3) x.1), (1, aF (.int 3) x.2.1)], []⟩) Tryz.func77 rfl (by kernel_rfl) (fun x => rfl) ?_
 rintro w0 Z0 ⟨x0, x1, u⟩ a w
 revert x0 x1
 intro (x0 : (List Int)) (x1 : (List Int)) hpre hlens h
 have hl1 : List.length x0 ≤ 9223372036854775807 := hlens.1.1
 have hl2 : List.length x1 ≤ 9223372036854775807 := hlens.2.1.1
 have hT : TabOK Tryz.prog S_spec_EqualInts_tab := .nil
 refine wp_seq ?_
 refine at_regq [] { ts := [0, 1, 4], os := [] } [] gamOK hT h (by kernel_rfl) trivial fun a w h => then_normal (wp_seq (wp_seq ?_))
 refine at_regq [] { ts := [0, 1, 4, 10], os := [] } [] gamOK hT h (by kernel_rfl) trivial fun a w h => then_normal ?_
 refine at_test (!decide (((List.length x0 : Nat) : Int) = ((List.length x1 : Nat) : Int))) h (by kernel_rfl) (fun h1 => ?_) (fun h1 => ?_)
 ·replace h1 : ¬ (((List.length x0 : Nat) : Int) = ((List.length x1 : Nat) : Int)) := of_decide_eq_false (notT h1)
  refine wp_seq ?_
  refine at_regq [] { ts := [0, 1, 4], os := [] } [] gamOK hT h (by kernel_rfl) trivial fun a w h => then_normal (wp_ret (then_ret ?_))
  exact at_return (false, ()) [] h (by kernel_rfl) trivial (congrArg (fun z => (z, ())) (show (false) = (Sh.eqB s22) x0 x1 from by exact (Sh.eqB_ne (fun e => h1 (by rw [e]))).symm))
 ·replace h1 : ((List.length x0 : Nat) : Int) = ((List.length x1 : Nat) : Int) := of_decide_eq_true (notF h1)
  refine wp_skip (then_normal (wp_seq (wp_seq ?_)))
  refine at_regq [] { ts := [0, 1, 4, 5], os := [] } [] gamOK hT h (by kernel_rfl) trivial fun a w h => then_normal (wp_block ?_)
  replace h := at_out (σ' := ⟨[(0, aF (.int 3) x0), (1, aF (.int 3) x1), (4, aB false), (5, aI 0)], []⟩) { ts := [0, 1, 4, 5], os := [] } h (by kernel_rfl)
  refine at_loop (fun i : Nat => (⟨[(0, aF (.int 3) x0), (1, aF (.int 3) x1), (4, aB false), (5, aI ((i : Nat) : Int))], []⟩ : St)) (fun i => (i ≤ List.length x0 ∧ x0.take i = x1.take i)) (fun i => List.length x0 - i) (0) h (st_congr1 (fun (d0 : Int) => (⟨[(0, aF (.int 3) x0), (1, aF (.int 3) x1), (4, aB false), (5, aI d0)], []⟩ : St)) (show (0 : Int) = (((0) : Nat) : Int) from by first | with_reducible rfl | (rfl) | rfl)) (by exact ⟨Nat.zero_le _, rfl⟩) ?_
  intro i a w hok0 h
  refine wp_seq (wp_seq ?_)
  refine at_regq [] { ts := [0, 1, 4, 5, 14], os := [] } [] gamOK hT h (by kernel_rfl) trivial fun a w h => then_normal ?_
  refine at_test (decide (((i : Nat) : Int) < ((List.length x0 : Nat) : Int))) h (by kernel_rfl) (fun h2 => ?_) (fun h2 => ?_)
  ·replace h2 : ((i : Nat) : Int) < ((List.length x0 : Nat) : Int) := of_decide_eq_true h2
   refine wp_skip (then_normal (wp_seq (wp_block (wp_seq ?_))))
   refine at_anyq [{}, {}, {}, {}, {}, {}, {}, {}, {}] { ts := [0, 1, 4, 5, 25], os := [] } [(0 : Int) ≤ ((i : Nat) : Int) ∧ ((i : Nat) : Int) < ((List.length x0 : Nat) : Int), (0 : Int) ≤ ((i : Nat) : Int) ∧ ((i : Nat) : Int) < ((List.length x1 : Nat) : Int)] gamOK hT mixed h (by kernel_rfl) ⟨(by refine ⟨?_, ?_⟩ <;> (first | omega | (simp only [lsA]; omega) | (simp <;> omega))), (by refine ⟨?_, ?_⟩ <;> (first | omega | (simp only [lsA]; omega) | (simp <;> omega))), trivial⟩ fun a w h => then_normal ?_
   refine at_test (!decide ((x0.getD i 0) = (x1.getD i 0))) h (by kernel_rfl) (fun h3 => ?_) (fun h3 => ?_)
   ·replace h3 : ¬ ((x0.getD i 0) = (x1.getD i 0)) := of_decide_eq_false (notT h3)
    refine wp_seq ?_
    refine at_regq [] { ts := [0, 1, 4, 5], os := [] } [] gamOK hT h (by kernel_rfl) trivial fun a w h => then_normal (wp_ret (in_ret (then_ret (then_ret (in_ret (then_ret ?_))))))
    exact at_return (false, ()) [] h (by kernel_rfl) trivial (congrArg (fun z => (z, ())) (show (false) = (Sh.eqB s22) x0 x1 from by exact (Sh.eqB_ne (s := s22) (fun e => h3 (by rw [e]))).symm))
   ·replace h3 : (x0.getD i 0) = (x1.getD i 0) := of_decide_eq_true (notF h3)
    refine wp_skip (in_normal (then_normal ?_))
    refine at_regq [{}, { nw := true }] { ts := [0, 1, 4, 5], os := [] } [I64 (((i : Nat) : Int) + 1)] gamOK hT h (by kernel_rfl) ⟨⟨by first | omega | (simp only [lsA]; omega) | (simp <;> omega), by first | omega | (simp only [lsA]; omega) | (simp <;> omega)⟩, trivial⟩ fun a w h => ?_
    replace h := at_out (σ' := ⟨[(0, aF (.int 3) x0), (1, aF (.int 3) x1), (4, aB false), (5, aI (((i : Nat) : Int) + 1))], []⟩) { ts := [0, 1, 4, 5], os := [] } h (by kernel_rfl)
    exact ⟨i + 1, at_eq h (st_congr1 (fun (d0 : Int) => (⟨[(0, aF (.int 3) x0), (1, aF (.int 3) x1), (4, aB false), (5, aI d0)], []⟩ : St)) (show (((i : Nat) : Int) + 1 : Int) = (((i + 1) : Nat) : Int) from by first | with_reducible rfl | (omega) | rfl)), (by exact ⟨by omega, eqTo_step (z := 0) (by omega) (by omega) hok0.2 h3⟩), (by omega)⟩
  ·replace h2 : ¬ (((i : Nat) : Int) < ((List.length x0 : Nat) : Int)) := of_decide_eq_false h2
   refine wp_exit (then_exit (then_exit (in_hit (then_normal (wp_seq ?_)))))
   refine at_regq [] { ts := [4], os := [] } [] gamOK hT h (by kernel_rfl) trivial fun a w h => then_normal (wp_ret ?_)
   exact at_return (true, ()) [] h (by kernel_rfl) trivial (congrArg (fun z => (z, ())) (show (true) = (Sh.eqB s22) x0 x1 from by (have e := hok0.2; rw [take_all (by omega), take_all (by omega)] at e; exact ((Sh.eqB_iff s22).2 e).symm)))

def D_spec_l30Sizes (x0 : (List Int)) : Bool := (if (List.all x0 (fun n => inR n 1 8)) = true then decide (((List.length x0 : Nat) : Int) ≤ 60) else false)
def S_spec_l30Sizes : Sum := { fid := 46, dom := [s22], cod := [(.bool 4)], dp := true, fz := false, pre := fun x => True, g := fun x => ((D_spec_l30Sizes x.1), ()) }
def S_spec_l30Sizes_tab : List (Nat × Sum) := [(45, S_spec_l1In)]
theorem S_spec_l30Sizes_ok : FnOK Tryz.prog 46 S_spec_l30Sizes := by
 refine at_enter 19 (fun x => ⟨[(0, aF (.int 3) x.1)], []⟩) Tryz.func46 rfl (by kernel_rfl) (fun x => rfl) ?_
 rintro w0 Z0 ⟨x0, u⟩ a w
 revert x0
 intro (x0 : (List Int)) hpre hlens h
 have hl1 : List.length x0 ≤ 9223372036854775807 := hlens.1.1
 have hT : TabOK Tryz.prog S_spec_l30Sizes_tab := (.cons S_spec_l1In_ok .nil)
 refine wp_seq ?_
 refine at_regq [] { ts := [0, 2], os := [] } [] gamOK hT h (by kernel_rfl) trivial fun a w h => then_normal (wp_seq (wp_seq ?_))
 refine at_regq [] { ts := [0, 2, 3], os := [] } [] gamOK hT h (by kernel_rfl) trivial fun a w h => then_normal (wp_block ?_)
 replace h := at_out (σ' := ⟨[(0, aF (.int 3) x0), (2, aB false), (3, aI 0)], []⟩) { ts := [0, 2, 3], os := [] } h (by kernel_rfl)
 refine at_loop (fun i : Nat => (⟨[(0, aF (.int 3) x0), (2, aB false), (3, aI ((i : Nat) : Int))], []⟩ : St)) (fun i => (i ≤ List.length x0 ∧ allTo1 (fun n => inR n 1 8) x0 0 i)) (fun i => List.length x0 - i) (0) h (st_congr1 (fun (d0 : Int) => (⟨[(0, aF (.int 3) x0), (2, aB false), (3, aI d0)], []⟩ : St)) (show (0 : Int) = (((0) : Nat) : Int) from by first | with_reducible rfl | (rfl) | rfl)) (by exact ⟨Nat.zero_le _, allTo1_zero⟩) ?_
 intro i a w hok0 h
 refine wp_seq (wp_seq ?_)
 refine at_regq [] { ts := [0, 2, 3, 7], os := [] } [] gamOK hT h (by kernel_rfl) trivial fun a w h => then_normal ?_
 refine at_test (decide (((i : Nat) : Int) < ((List.length x0 : Nat) : Int))) h (by kernel_rfl) (fun h1 => ?_) (fun h1 => ?_)
 ·replace h1 : ((i : Nat) : Int) < ((List.length x0 : Nat) : Int) := of_decide_eq_true h1
  refine wp_skip (then_normal (wp_seq (wp_block (wp_seq ?_))))
  refine at_regq [] { ts := [0, 2, 3, 15], os := [] } [(0 : Int) ≤ ((i : Nat) : Int) ∧ ((i : Nat) : Int) < ((List.length x0 : Nat) : Int), True] gamOK hT h (by kernel_rfl) ⟨(by refine ⟨?_, ?_⟩ <;> (first | omega | (simp only [lsA]; omega) | (simp <;> omega))), trivial, trivial⟩ fun a w h => then_normal ?_
  refine at_test (!(inR (x0.getD i 0) 1 8)) h (by kernel_rfl) (fun h2 => ?_) (fun h2 => ?_)
  ·replace h2 : (inR (x0.getD i 0) 1 8) = false := notT h2
   have hvh2 := inR_f h2
   refine wp_seq ?_
   refine at_regq [] { ts := [0, 2, 3], os := [] } [] gamOK hT h (by kernel_rfl) trivial fun a w h => then_normal (wp_ret (in_ret (then_ret ?_)))
   have hs3 : (List.all x0 (fun n => inR n 1 8)) = false := by exact all_at (z := 0) (i := i) (by omega) (by first | assumption | (simp_all; done))
   refine then_ret (in_ret (then_ret ?_))
   exact at_return (false, ()) [] h (by kernel_rfl) trivial (congrArg (fun z => (z, ())) (show (false) = D_spec_l30Sizes x0 from by first | rfl | (unfold D_spec_l30Sizes; rw [if_neg (neT hs3)])))
  ·replace h2 : (inR (x0.getD i 0) 1 8) = true := notF h2
   have hvh2 := inR_t h2
   refine wp_skip (in_normal (then_normal ?_))
   refine at_regq [{}, { nw := true }] { ts := [0, 2, 3], os := [] } [I64 (((i : Nat) : Int) + 1)] gamOK hT h (by kernel_rfl) ⟨⟨by first | omega | (simp only [lsA]; omega) | (simp <;> omega), by first | omega | (simp only [lsA]; omega) | (simp <;> omega)⟩, trivial⟩ fun a w h => ?_
   replace h := at_out (σ' := ⟨[(0, aF (.int 3) x0), (2, aB false), (3, aI (((i : Nat) : Int) + 1))], []⟩) { ts := [0, 2, 3], os := [] } h (by kernel_rfl)
   exact ⟨i + 1, at_eq h (st_congr1 (fun (d0 : Int) => (⟨[(0, aF (.int 3) x0), (2, aB false), (3, aI d0)], []⟩ : St)) (show (((i : Nat) : Int) + 1 : Int) = (((i + 1) : Nat) : Int) from by first | with_reducible rfl | (omega) | rfl)), (by exact ⟨by omega, allTo1_succ hok0.2 (by first | assumption | (simp_all; done))⟩), (by omega)⟩
 ·replace h1 : ¬ (((i : Nat) : Int) < ((List.length x0 : Nat) : Int)) := of_decide_eq_false h1
  refine wp_exit (then_exit ?_)
  have hs4 : (List.all x0 (fun n => inR n 1 8)) = true := by exact all_of (z := 0) (i := i) (by omega) hok0.2
  refine then_exit (in_hit (then_normal (wp_seq ?_)))
  refine at_regq [] { ts := [2], os := [] } [] gamOK hT h (by kernel_rfl) trivial fun a w h => then_normal (wp_ret ?_)
  exact at_return (decide (((List.length x0 : Nat) : Int) ≤ 60), ()) [] h (by kernel_rfl) trivial (congrArg (fun z => (z, ())) (show (decide (((List.length x0 : Nat) : Int) ≤ 60)) = D_spec_l30Sizes x0 from by first | rfl | (unfold D_spec_l30Sizes; rw [if_pos hs4])))

def D_impl_NewSink_1 := (fun n => !inR n 1 8)
def S_impl_NewSink_1 : Sum := { fid := 80, dom := [(.int 3)], cod := [(.bool 4)], dp := true, fz := false, pre := fun x => True, g := fun x => ((D_impl_NewSink_1 x.1), ()) }
def S_impl_NewSink_1_tab : List (Nat × Sum) := [(59, S_impl_InRange)]
theorem S_impl_NewSink_1_ok : FnOK Tryz.prog 80 S_impl_NewSink_1 := by
 refine at_enter 6 (fun x => ⟨[(0, aI x.1)], []⟩) Tryz.func80 rfl (by kernel_rfl) (fun x => rfl) ?_
 rintro w0 Z0 ⟨x0, u⟩ a w
 revert x0
 intro (x0 : Int) hpre hlens h
 have hT : TabOK Tryz.prog S_impl_NewSink_1_tab := (.cons S_impl_InRange_ok .nil)
 refine wp_seq ?_
 refine at_regq [] { ts := [0, 2], os := [] } [] gamOK hT h (by kernel_rfl) trivial fun a w h => then_normal (wp_seq ?_)
 refine at_regq [] { ts := [2], os := [] } [True] gamOK hT h (by kernel_rfl) ⟨trivial, trivial⟩ fun a w h => then_normal (wp_ret ?_)
 exact at_return (!(inR x0 1 8), ()) [] h (by kernel_rfl) trivial (congrArg (fun z => (z, ())) (show (!(inR x0 1 8)) = D_impl_NewSink_1 x0 from by unfold D_impl_NewSink_1; rfl))

def D_slices_IndexFunc_S_int_int__NewSink_1 := (fun (xs : List Int) (cap : Unit) => idxF (fun e => !inR e 1 8) xs)
def S_slices_IndexFunc_S_int_int__NewSink_1 : Sum := { fid := 97, dom := [s22, (.fn0 80)], cod := [(.int 3)], dp := true, fz := false, pre := fun x => True, g := fun x => ((D_slices_IndexFunc_S_int_int__NewSink_1 x.1 x.2.1), ()) }
def S_slices_IndexFunc_S_int_int__NewSink_1_tab : List (Nat × Sum) := [(80, S_impl_NewSink_1)]
theorem S_slices_IndexFunc_S_int_int__NewSink_1_ok : FnOK Tryz.prog 97 S_slices_IndexFunc_S_int_int__NewSink_1 := by
 refine at_enter 19 (fun x => ⟨[(0, aF (.int 3) x.1), (1, .p (.c (.cl 80 .cnil)))], []⟩) Tryz.func97 rfl (by kernel_rfl) (fun x => rfl) ?_
 rintro w0 Z0 ⟨x0, x1, u⟩ a w
 revert x0 x1
 intro (x0 : (List Int)) (x1 : Unit) hpre hlens h
 have hl1 : List.length x0 ≤ 9223372036854775807 := hlens.1.1
 have hT : TabOK Tryz.prog S_slices_IndexFunc_S_int_int__NewSink_1_tab := (.cons S_impl_NewSink_1_ok .nil)
 refine wp_seq ?_
 refine at_regq [] { ts := [0, 1, 4], os := [] } [] gamOK hT h (by kernel_rfl) trivial fun a w h => then_normal (wp_seq (wp_seq ?_))
 refine at_regq [] { ts := [0, 1, 4, 7, 8], os := [] } [] gamOK hT h (by kernel_rfl) trivial fun a w h => then_normal (wp_block ?_)
 replace h := at_out (σ' := ⟨[(0, aF (.int 3) x0), (1, .p (.c (.cl 80 .cnil))), (4, aI 0), (7, aI ((List.length x0 : Nat) : Int)), (8, aI 0)], []⟩) { ts := [0, 1, 4, 7, 8], os := [] } h (by kernel_rfl)
 refine at_loop (fun i : Nat => (⟨[(0, aF (.int 3) x0), (1, .p (.c (.cl 80 .cnil))), (4, aI 0), (7, aI ((List.length x0 : Nat) : Int)), (8, aI ((i : Nat) : Int))], []⟩ : St)) (fun i => (i ≤ List.length x0 ∧ noneTo (fun e => !inR e 1 8) x0 0 i)) (fun i => List.length x0 - i) (0) h (st_congr1 (fun (d0 : Int) => (⟨[(0, aF (.int 3) x0), (1, .p (.c (.cl 80 .cnil))), (4, aI 0), (7, aI ((List.length x0 : Nat) : Int)), (8, aI d0)], []⟩ : St)) (show (0 : Int) = (((0) : Nat) : Int) from by first | with_reducible rfl | (rfl) | rfl)) (by exact ⟨Nat.zero_le _, noneTo_zero⟩) ?_
 intro i a w hok0 h
 refine wp_seq ?_
 refine at_regq [] { ts := [0, 1, 4, 7, 8, 9], os := [] } [] gamOK hT h (by kernel_rfl) trivial fun a w h => then_normal (wp_seq ?_)
 refine at_test (decide (((i : Nat) : Int) < ((List.length x0 : Nat) : Int))) h (by kernel_rfl) (fun h1 => ?_) (fun h1 => ?_)
 ·replace h1 : ((i : Nat) : Int) < ((List.length x0 : Nat) : Int) := of_decide_eq_true h1
  refine wp_skip (then_normal (wp_seq (wp_block (wp_seq ?_))))
  refine at_regq [] { ts := [0, 1, 4, 5, 7, 8], os := [] } [] gamOK hT h (by kernel_rfl) trivial fun a w h => then_normal (wp_seq ?_)
  refine at_regq [] { ts := [0, 1, 4, 5, 7, 8, 16], os := [] } [(0 : Int) ≤ ((i : Nat) : Int) ∧ ((i : Nat) : Int) < ((List.length x0 : Nat) : Int), True] gamOK hT h (by kernel_rfl) ⟨(by refine ⟨?_, ?_⟩ <;> (first | omega | (simp only [lsA]; omega) | (simp <;> omega))), trivial, trivial⟩ fun a w h => then_normal ?_
  refine at_test ((D_impl_NewSink_1 (x0.getD i 0))) h (by kernel_rfl) (fun h2 => ?_) (fun h2 => ?_)
  ·refine wp_seq ?_
   refine at_regq [] { ts := [0, 1, 4, 7, 8], os := [] } [] gamOK hT h (by kernel_rfl) trivial fun a w h => then_normal (wp_ret (in_ret (then_ret (then_ret (in_ret (then_ret ?_))))))
   exact at_return (((i : Nat) : Int), ()) [] h (by kernel_rfl) trivial (congrArg (fun z => (z, ())) (show (((i : Nat) : Int)) = D_slices_IndexFunc_S_int_int__NewSink_1 x0 x1 from by unfold D_slices_IndexFunc_S_int_int__NewSink_1; exact (idxF_at (z := 0) (by omega) hok0.2 h2).symm))
  ·refine wp_skip (in_normal (then_normal ?_))
   refine at_regq [{ nw := true }] { ts := [0, 1, 4, 7, 8], os := [] } [I64 (((i : Nat) : Int) + 1)] gamOK hT h (by kernel_rfl) ⟨⟨by first | omega | (simp only [lsA]; omega) | (simp <;> omega), by first | omega | (simp only [lsA]; omega) | (simp <;> omega)⟩, trivial⟩ fun a w h => ?_
   replace h := at_out (σ' := ⟨[(0, aF (.int 3) x0), (1, .p (.c (.cl 80 .cnil))), (4, aI 0), (7, aI ((List.length x0 : Nat) : Int)), (8, aI (((i : Nat) : Int) + 1))], []⟩) { ts := [0, 1, 4, 7, 8], os := [] } h (by kernel_rfl)
   exact ⟨i + 1, at_eq h (st_congr1 (fun (d0 : Int) => (⟨[(0, aF (.int 3) x0), (1, .p (.c (.cl 80 .cnil))), (4, aI 0), (7, aI ((List.length x0 : Nat) : Int)), (8, aI d0)], []⟩ : St)) (show (((i : Nat) : Int) + 1 : Int) = (((i + 1) : Nat) : Int) from by first | with_reducible rfl | (omega) | rfl)), (by exact ⟨by omega, noneTo_succ hok0.2 h2⟩), (by omega)⟩
 ·replace h1 : ¬ (((i : Nat) : Int) < ((List.length x0 : Nat) : Int)) := of_decide_eq_false h1
  refine wp_exit (then_exit (then_exit (in_hit (then_normal (wp_seq ?_)))))
  refine at_regq [] { ts := [4], os := [] } [] gamOK hT h (by kernel_rfl) trivial fun a w h => then_normal (wp_ret ?_)
  exact at_return ((-1), ()) [] h (by kernel_rfl) trivial (congrArg (fun z => (z, ())) (show ((-1)) = D_slices_IndexFunc_S_int_int__NewSink_1 x0 x1 from by unfold D_slices_IndexFunc_S_int_int__NewSink_1; exact (idxF_none (z := 0) (by omega) hok0.2).symm))

def D_slices_ContainsFunc_S_int_int__NewSink_1 := (fun (xs : List Int) (cap : Unit) => xs.any fun e => !inR e 1 8)
def S_slices_ContainsFunc_S_int_int__NewSink_1 : Sum := { fid := 79, dom := [s22, (.fn0 80)], cod := [(.bool 4)], dp := true, fz := false, pre := fun x => True, g := fun x => ((D_slices_ContainsFunc_S_int_int__NewSink_1 x.1 x.2.1), ()) }
def S_slices_ContainsFunc_S_int_int__NewSink_1_tab : List (Nat × Sum) := [(100001, S_slices_IndexFunc_S_int_int__NewSink_1)]
theorem S_slices_ContainsFunc_S_int_int__NewSink_1_ok : FnOK Tryz.prog 79 S_slices_ContainsFunc_S_int_int__NewSink_1 := by
 refine at_enter 9 (fun x => ⟨[(0, aF (.int 3) x.1), (1, .p (.c (.cl 80 .cnil)))], []⟩) Tryz.func79 rfl (by kernel_rfl) (fun x => rfl) ?_
 rintro w0 Z0 ⟨x0, x1, u⟩ a w
 revert x0 x1
 intro (x0 : (List Int)) (x1 : Unit) hpre hlens h
 have hl1 : List.length x0 ≤ 9223372036854775807 := hlens.1.1
 have hT : TabOK Tryz.prog S_slices_ContainsFunc_S_int_int__NewSink_1_tab := (.cons S_slices_IndexFunc_S_int_int__NewSink_1_ok .nil)
 refine wp_seq ?_
 refine at_regq [] { ts := [0, 1, 4], os := [] } [] gamOK hT h (by kernel_rfl) trivial fun a w h => then_normal (wp_seq ?_)
 refine at_regq [{}, {}, { key := some 100001 }] { ts := [4], os := [] } [True] gamOK hT h (by kernel_rfl) ⟨trivial, trivial⟩ fun a w h => then_normal (wp_ret ?_)
 exact at_return (decide ((D_slices_IndexFunc_S_int_int__NewSink_1 x0 ()) ≥ 0), ()) [] h (by kernel_rfl) trivial (congrArg (fun z => (z, ())) (show (decide ((D_slices_IndexFunc_S_int_int__NewSink_1 x0 ()) ≥ 0)) = D_slices_ContainsFunc_S_int_int__NewSink_1 x0 x1 from by unfold D_slices_ContainsFunc_S_int_int__NewSink_1; exact idxF_any))

def newSink (x0 : Int) (x1 : Int) (x2 : (List Int)) : T34 := (if (inR x0 0 7) = true then (if (inR x1 1 16) = true then (if ((List.length x2 : Nat) : Int) > 60 then (0, (0, (([] : List Int), (([] : List T69), (([] : List T64), 0))))) else (if (D_slices_ContainsFunc_S_int_int__NewSink_1 x2 ()) = true then (0, (0, (([] : List Int), (([] : List T69), (([] : List T64), 0))))) else (x0, (x1, (x2, (([] : List T69), (([] : List T64), 0))))))) else (0, (0, (([] : List Int), (([] : List T69), (([] : List T64), 0)))))) else (0, (0, (([] : List Int), (([] : List T69), (([] : List T64), 0))))))
abbrev Q_impl_NewSink := (fun (x0 : Int) (x1 : Int) (x2 : (List Int)) => Sh.fit s22 x2)
def S_impl_NewSink : Sum := { fid := 58, dom := [(.int 3), (.int 3), s22], cod := [s34], dp := true, fz := false, pre := fun x => Q_impl_NewSink x.1 x.2.1 x.2.2.1, g := fun x => ((newSink x.1 x.2.1 x.2.2.1), ()) }
def S_impl_NewSink_tab : List (Nat × Sum) := [(59, S_impl_InRange), (100002, S_slices_ContainsFunc_S_int_int__NewSink_1), (81, S_slices_Clone_S_int_int_)]
theorem S_impl_NewSink_ok : FnOK Tryz.prog 58 S_impl_NewSink := by
 refine at_enter 29 (fun x => ⟨[(0, aI x.1), (1, aI x.2.1), (2, aF (.int 3) x.2.2.1)], []⟩) Tryz.func58 rfl (by kernel_rfl) (fun x => rfl) ?_
 rintro w0 Z0 ⟨x0, x1, x2, u⟩ a w
 revert x0 x1 x2
 intro (x0 : Int) (x1 : Int) (x2 : (List Int)) hpre hlens h
 replace hpre : Q_impl_NewSink x0 x1 x2 := hpre
 have hT : TabOK Tryz.prog S_impl_NewSink_tab := (.cons S_impl_InRange_ok (.cons S_slices_ContainsFunc_S_int_int__NewSink_1_ok (.cons S_slices_Clone_S_int_int__ok .nil)))
 have hf2 : Sh.fit s22 x2 := hpre
 have hn2_1 : List.length x2 ≤ 1073741824 := hf2.1
 refine wp_seq ?_
 refine at_regq [{ ids := [1] }] { ts := [0, 1, 2, 6], os := [1] } [] gamOK hT h (by kernel_rfl) trivial fun a w h => then_normal (wp_seq (wp_seq ?_))
 rcases Bool.eq_false_or_eq_true (!(inR x0 0 7)) with h1 | h1
 ·have hzh1 : (inR x0 0 7) = false := notT h1
  have hvh1 := inR_f (notT h1)
  refine at_regq [{}, {}, { hint := some (aB true) }] { ts := [0, 1, 2, 6, 19], os := [1] } [True, (AV.p (.c (.v (.bool (!(inR x0 0 7))))) = AV.p (.c (.v (.bool true))))] gamOK hT h (by kernel_rfl) ⟨trivial, hint_bool (h1), trivial⟩ fun a w h => then_normal ?_
  refine at_test true h (by kernel_rfl) (fun hh => ?_) (fun hh => nomatch hh)
  refine wp_seq ?_
  refine at_regq [] { ts := [0, 1, 2, 6], os := [1] } [] gamOK hT h (by kernel_rfl) trivial fun a w h => then_normal (wp_ret (then_ret ?_))
  exact at_return ((0, (0, (([] : List Int), (([] : List T69), (([] : List T64), 0))))), ()) [] h (by kernel_rfl) trivial (congrArg (fun z => (z, ())) (show ((0, (0, (([] : List Int), (([] : List T69), (([] : List T64), 0)))))) = newSink x0 x1 x2 from by first | rfl | (unfold newSink; rw [if_neg (neT (notT h1))])))
 ·have hzh1 : (inR x0 0 7) = true := notF h1
  have hvh1 := inR_t (notF h1)
  rcases Bool.eq_false_or_eq_true (!(inR x1 1 16)) with h2 | h2
  ·have hzh2 : (inR x1 1 16) = false := notT h2
   have hvh2 := inR_f (notT h2)
   refine at_regq [{}, {}, { hint := some (aB false) }, {}, {}, {}, { hint := some (aB true) }] { ts := [0, 1, 2, 6, 19], os := [1] } [True, (AV.p (.c (.v (.bool (!(inR x0 0 7))))) = AV.p (.c (.v (.bool false)))), True, (AV.p (.c (.v (.bool (!(inR x1 1 16))))) = AV.p (.c (.v (.bool true))))] gamOK hT h (by kernel_rfl) ⟨trivial, hint_bool (h1), trivial, hint_bool (h2), trivial⟩ fun a w h => then_normal ?_
   refine at_test true h (by kernel_rfl) (fun hh => ?_) (fun hh => nomatch hh)
   refine wp_seq ?_
   refine at_regq [] { ts := [0, 1, 2, 6], os := [1] } [] gamOK hT h (by kernel_rfl) trivial fun a w h => then_normal (wp_ret (then_ret ?_))
   exact at_return ((0, (0, (([] : List Int), (([] : List T69), (([] : List T64), 0))))), ()) [] h (by kernel_rfl) trivial (congrArg (fun z => (z, ())) (show ((0, (0, (([] : List Int), (([] : List T69), (([] : List T64), 0)))))) = newSink x0 x1 x2 from by first | rfl | (unfold newSink; rw [if_pos (notF h1), if_neg (neT (notT h2))])))
  ·have hzh2 : (inR x1 1 16) = true := notF h2
   have hvh2 := inR_t (notF h2)
   refine at_regq [{}, {}, { hint := some (aB false) }, {}, {}, {}, { hint := some (aB false) }] { ts := [0, 1, 2, 6, 19], os := [1] } [True, (AV.p (.c (.v (.bool (!(inR x0 0 7))))) = AV.p (.c (.v (.bool false)))), True, (AV.p (.c (.v (.bool (!(inR x1 1 16))))) = AV.p (.c (.v (.bool false))))] gamOK hT h (by kernel_rfl) ⟨trivial, hint_bool (h1), trivial, hint_bool (h2), trivial⟩ fun a w h => then_normal ?_
   refine at_test (decide (((List.length x2 : Nat) : Int) > 60)) h (by kernel_rfl) (fun h3 => ?_) (fun h3 => ?_)
   ·replace h3 : ((List.length x2 : Nat) : Int) > 60 := of_decide_eq_true h3
    refine wp_seq ?_
    refine at_regq [] { ts := [0, 1, 2, 6], os := [1] } [] gamOK hT h (by kernel_rfl) trivial fun a w h => then_normal (wp_ret (then_ret ?_))
    exact at_return ((0, (0, (([] : List Int), (([] : List T69), (([] : List T64), 0))))), ()) [] h (by kernel_rfl) trivial (congrArg (fun z => (z, ())) (show ((0, (0, (([] : List Int), (([] : List T69), (([] : List T64), 0)))))) = newSink x0 x1 x2 from by first | rfl | (unfold newSink; rw [if_pos (notF h1), if_pos (notF h2), if_pos h3])))
   ·replace h3 : ¬ (((List.length x2 : Nat) : Int) > 60) := of_decide_eq_false h3
    refine wp_skip (then_normal (wp_seq (wp_seq ?_)))
    refine at_regq [{}, { key := some 100002 }] { ts := [0, 1, 2, 6, 22], os := [1] } [True] gamOK hT h (by kernel_rfl) ⟨trivial, trivial⟩ fun a w h => then_normal ?_
    refine at_test ((D_slices_ContainsFunc_S_int_int__NewSink_1 x2 ())) h (by kernel_rfl) (fun h4 => ?_) (fun h4 => ?_)
    ·refine wp_seq ?_
     refine at_regq [] { ts := [0, 1, 2, 6], os := [1] } [] gamOK hT h (by kernel_rfl) trivial fun a w h => then_normal (wp_ret (then_ret ?_))
     exact at_return ((0, (0, (([] : List Int), (([] : List T69), (([] : List T64), 0))))), ()) [] h (by kernel_rfl) trivial (congrArg (fun z => (z, ())) (show ((0, (0, (([] : List Int), (([] : List T69), (([] : List T64), 0)))))) = newSink x0 x1 x2 from by first | rfl | (unfold newSink; rw [if_pos (notF h1), if_pos (notF h2), if_neg h3, if_pos h4])))
    ·refine wp_skip (then_normal (wp_seq ?_))
     refine at_regq [{}, {}, {}, { ids := [2] }] { ts := [6], os := [1, 2] } [(lenOK (α := Int)) x2] gamOK hT h (by kernel_rfl) ⟨(by first | assumption | trivial | (first | omega | (simp only [lsA]; omega) | (simp <;> omega))), trivial⟩ fun a w h => then_normal (wp_ret ?_)
     exact at_return ((x0, (x1, (x2, (([] : List T69), (([] : List T64), 0))))), ()) [] h (by kernel_rfl) trivial (congrArg (fun z => (z, ())) (show ((x0, (x1, (x2, (([] : List T69), (([] : List T64), 0)))))) = newSink x0 x1 x2 from by first | rfl | (unfold newSink; rw [if_pos (notF h1), if_pos (notF h2), if_neg h3, if_neg (neT h4)])))

def bsF (p : Nat → Bool) (i j : Nat) : Nat := if h : i < j then (if p ((i + j) / 2) = true then bsF p ((i + j) / 2 + 1) j else bsF p i ((i + j) / 2)) else i
termination_by j - i
theorem bsF_up {p : Nat → Bool} {i j : Nat} (h : i < j) (hp : p ((i + j) / 2) = true) : bsF p i j = bsF p ((i + j) / 2 + 1) j := by rw [bsF, dif_pos h, if_pos hp]
theorem bsF_down {p : Nat → Bool} {i j : Nat} (h : i < j) (hp : p ((i + j) / 2) = false) : bsF p i j = bsF p i ((i + j) / 2) := by rw [bsF, dif_pos h, if_neg (by rw [hp]; decide)]
theorem bsF_end {p : Nat → Bool} {i j : Nat} (h : ¬ i < j) : bsF p i j = i := by rw [bsF, dif_neg h]
theorem bsF_bd (p : Nat → Bool) : ∀ (d i j : Nat), j - i ≤ d → i ≤ j → i ≤ bsF p i j ∧ bsF p i j ≤ j
 | 0, i, j, h, hij => by rw [bsF_end (by omega)]; omega
 | d + 1, i, j, h, hij => by
  by_cases hl : i < j
  ·cases hp : p ((i + j) / 2) with
   | true => rw [bsF_up hl hp]; have := bsF_bd p d ((i + j) / 2 + 1) j (by omega) (by omega); omega
   | false => rw [bsF_down hl hp]; have := bsF_bd p d i ((i + j) / 2) (by omega) (by omega); omega
  ·rw [bsF_end hl]; omega
theorem bsF_first {p : Nat → Bool} {n : Nat} (hm : ∀ a b, a ≤ b → b < n → p b = true → p a = true) : ∀ (d i j : Nat), j - i ≤ d → i ≤ j → j ≤ n → (∀ a, a < i → p a = true) → (∀ a, j ≤ a → a < n → p a = false) →
  (∀ a, a < bsF p i j → p a = true) ∧ ∀ a, bsF p i j ≤ a → a < n → p a = false
 | 0, i, j, h, hij, hjn, h1, h2 => by rw [bsF_end (by omega)]; exact ⟨h1, fun a ha hn => h2 a (by omega) hn⟩
 | d + 1, i, j, h, hij, hjn, h1, h2 => by
  by_cases hl : i < j
  ·cases hp : p ((i + j) / 2) with
   | true => rw [bsF_up hl hp]; exact bsF_first hm d _ j (by omega) (by omega) hjn (fun a ha => hm a _ (by omega) (by omega) hp) h2
   | false =>
    rw [bsF_down hl hp]
    refine bsF_first hm d i _ (by omega) (by omega) (by omega) h1 fun a ha hn => ?_
    cases hpa : p a with
    | false => rfl
    | true => rw [hm _ a ha hn hpa] at hp; cases hp
  ·rw [bsF_end hl]; exact ⟨h1, fun a ha hn => h2 a (by omega) hn⟩
theorem half_eq {i j : Nat} (h : i + j ≤ 2147483648) : IntKind.i64.wrap (Int.fdiv (IntKind.u64.wrap ((i : Int) + (j : Int))) (2 ^ (min (1 : Int).toNat (IntKind.u64).bits))) = (((i + j) / 2 : Nat) : Int) := by
 have e1 : IntKind.u64.wrap ((i : Int) + (j : Int)) = ((i + j : Nat) : Int) := by
  simp only [IntKind.wrap, IntKind.bits, IntKind.signed]
  simp
  omega
 have e2 : (2 : Int) ^ (min (1 : Int).toNat (IntKind.u64).bits) = 2 := by decide
 rw [e1, e2, Int.fdiv_eq_ediv_of_nonneg _ (by omega), IntKind.wrap_i64]
 omega
def D_cmp_isNaN_int_ := (fun (_ : Int) => false)
def S_cmp_isNaN_int_ : Sum := { fid := 100, dom := [(.int 3)], cod := [(.bool 4)], dp := true, fz := false, pre := fun x => True, g := fun x => ((D_cmp_isNaN_int_ x.1), ()) }
def S_cmp_isNaN_int__tab : List (Nat × Sum) := []
theorem S_cmp_isNaN_int__ok : FnOK Tryz.prog 100 S_cmp_isNaN_int_ := by
 refine at_enter 6 (fun x => ⟨[(0, aI x.1)], []⟩) Tryz.func100 rfl (by kernel_rfl) (fun x => rfl) ?_
 rintro w0 Z0 ⟨x0, u⟩ a w
 revert x0
 intro (x0 : Int) hpre hlens h
 have hT : TabOK Tryz.prog S_cmp_isNaN_int__tab := .nil
 refine wp_seq ?_
 refine at_regq [] { ts := [0, 2], os := [] } [] gamOK hT h (by kernel_rfl) trivial fun a w h => then_normal (wp_seq ?_)
 refine at_regq [] { ts := [2], os := [] } [] gamOK hT h (by kernel_rfl) trivial fun a w h => then_normal (wp_ret ?_)
 exact at_return (!decide (x0 = x0), ()) [] h (by kernel_rfl) trivial (congrArg (fun z => (z, ())) (show (!decide (x0 = x0)) = D_cmp_isNaN_int_ x0 from by unfold D_cmp_isNaN_int_; simp))

theorem shr1 {n : Nat} : Int.fdiv (n : Int) (2 ^ (min (1 : Int).toNat (IntKind.i64).bits)) = ((n / 2 : Nat) : Int) := by
 have e2 : (2 : Int) ^ (min (1 : Int).toNat (IntKind.i64).bits) = 2 := by decide
 rw [e2, Int.fdiv_eq_ediv_of_nonneg _ (by omega)]; omega
theorem and1 {n : Nat} (h : n ≤ 4611686018427387904) : IntKind.i64.wrap ((BitVec.ofInt (IntKind.i64).bits (n : Int) &&& BitVec.ofInt (IntKind.i64).bits 1).toNat : Int) = ((n % 2 : Nat) : Int) := by
 have e : (BitVec.ofInt (IntKind.i64).bits (n : Int) &&& BitVec.ofInt (IntKind.i64).bits 1).toNat = n % 2 := by
  rw [BitVec.toNat_and]
  have h1 : (BitVec.ofInt (IntKind.i64).bits (n : Int)).toNat = n := by
   rw [BitVec.toNat_ofInt]
   simp [IntKind.bits]
   omega
  have h2 : (BitVec.ofInt (IntKind.i64).bits 1).toNat = 1 := by decide
  rw [h1, h2, Nat.and_one_is_mod]
 rw [e, IntKind.wrap_i64]; omega
theorem lead_idx : ∀ {xs : List Int}, idxF (fun e => !decide (e = 0)) xs = LA.leadS xs
 | [] => rfl
 | x :: l => by
  have ih := lead_idx (xs := l)
  simp only [idxF, LA.leadS, ih]
  by_cases h : x = 0
  ·rw [if_neg (show ¬ (!decide (x = 0)) = true by simp [h]), if_neg (show ¬ x ≠ 0 from fun e => e h)]
  ·rw [if_pos (show (!decide (x = 0)) = true by simp [h]), if_pos h]
def powP (a n m : Int) : Prop := (0 ≤ a ∧ a < m) ∧ (0 ≤ n ∧ n ≤ 4611686018427387904) ∧ 1 < m ∧ m ≤ 1048576
def powD (a n m : Int) : Int := LA.pmL m 1 a n.toNat
def powOK (x0 x1 x2 : Int) (q : Int × Int × Nat) : Prop := LA.pmL x2 q.1 q.2.1 q.2.2 = powD x0 x1 x2 ∧ (0 ≤ q.1 ∧ q.1 < x2) ∧ (0 ≤ q.2.1 ∧ q.2.1 < x2) ∧ q.2.2 ≤ 4611686018427387904
theorem powOK_odd {x0 x1 x2 : Int} {q : Int × Int × Nat} (h : powOK x0 x1 x2 q) (hm : 1 < x2) (h2 : q.2.2 % 2 = 1) : powOK x0 x1 x2 ((q.1 * q.2.1).tmod x2, (q.2.1 * q.2.1).tmod x2, q.2.2 / 2) := by
 obtain ⟨h0, ⟨h3, h4⟩, ⟨h5, h6⟩, h7⟩ := h
 exact ⟨by rw [← h0]; exact (LA.pmL_odd h2).symm, LA.tmod_lt (Int.mul_nonneg h3 h5) (by omega), LA.tmod_lt (Int.mul_nonneg h5 h5) (by omega), by dsimp only; omega⟩
theorem powOK_even {x0 x1 x2 : Int} {q : Int × Int × Nat} (h : powOK x0 x1 x2 q) (hm : 1 < x2) (h1 : q.2.2 ≠ 0) (h2 : q.2.2 % 2 = 0) : powOK x0 x1 x2 (q.1, (q.2.1 * q.2.1).tmod x2, q.2.2 / 2) := by
 obtain ⟨h0, ⟨h3, h4⟩, ⟨h5, h6⟩, h7⟩ := h
 exact ⟨by rw [← h0]; exact (LA.pmL_even h1 h2).symm, ⟨h3, h4⟩, LA.tmod_lt (Int.mul_nonneg h5 h5) (by omega), by dsimp only; omega⟩
def invF (x : Int) : Int := if isEl x = true then LA.invS x else 0
theorem invS_zero : LA.invS 0 = 0 := by
 have h := LA.pmL_bd (m := 1019) (by decide) 10 1017 1 0 (by decide) (by decide) (by decide) (by decide)
 have h2 := LA.pmL_c 10 1017 1 0 (by decide) (by decide) (by decide)
 have h3 : LA.c (LA.invS 0) = 0 := by unfold LA.invS; rw [h2]; decide +kernel
 exact (LA.c_ne ⟨h.1, by have := h.2; show LA.pmL 1019 1 0 1017 ≤ 1018; omega⟩).1 h3
theorem invF_bd (x : Int) : 0 ≤ invF x ∧ invF x ≤ 1018 := by
 unfold invF
 split
 ·rename_i h
  have hx := isEl_t h
  have := LA.pmL_bd (m := 1019) (by decide) 10 1017 1 x (by decide) (by decide) (by decide) hx.1
  unfold LA.invS; omega
 ·omega
theorem invF_el {x : Int} (h : 0 ≤ x ∧ x ≤ 1018) : invF x = LA.invS x := if_pos (inR_true h)
theorem elB {v : List Int} (h : ∀ x ∈ v, LA.El x) (j : Nat) : 0 ≤ v.getD j 0 ∧ v.getD j 0 ≤ 1018 := LA.VokB.at_ (n := v.length) ⟨rfl, h⟩ j
theorem validV_el {v : List Int} (h : List.all v isEl = true) : ∀ x ∈ v, LA.El x := fun x hx => isEl_t (List.all_eq_true.1 h x hx)
abbrev scF (k x : Int) : Int := (x * k).tmod 1019
theorem addS_take_le (a b : List Int) (k : Int) (i : Nat) : List.length (List.take i (LA.addS a b k)) ≤ List.length a := by simp [LA.addS]; omega
def prevL (m : List (List Int)) (i : Nat) : Int := if i = 0 then -1 else LA.leadS (m.getD (i - 1) [])
theorem prevL_bd (m : List (List Int)) (i : Nat) : -1 ≤ prevL m i := by
 unfold prevL; split
 ·omega
 ·have := LA.leadS_bd (m.getD (i - 1) []); omega
def clrB (m : List (List Int)) (i k : Nat) : Bool := decide (k = i) || decide ((m.getD k []).getD (LA.leadS (m.getD i [])).toNat 0 = 0)
theorem clrB_t {m : List (List Int)} {i k : Nat} (h : (k : Int) = (i : Int) ∨ (m.getD k []).getD (LA.leadS (m.getD i [])).toNat 0 = 0) : clrB m i k = true := by
 unfold clrB; rw [Bool.or_eq_true, decide_eq_true_iff, decide_eq_true_iff]; omega
theorem clrB_f {m : List (List Int)} {i k : Nat} (h1 : ¬ (k : Int) = (i : Int)) (h2 : ¬ (m.getD k []).getD (LA.leadS (m.getD i [])).toNat 0 = 0) : clrB m i k = false := by
 unfold clrB; rw [Bool.or_eq_false_iff, decide_eq_false_iff_not, decide_eq_false_iff_not]; omega
def redB (m : List (List Int)) (i : Nat) : Bool := decide (prevL m i < LA.leadS (m.getD i [])) && (decide ((m.getD i []).getD (LA.leadS (m.getD i [])).toNat 0 = 1) && allN (clrB m i) m.length)
theorem redB_t {m : List (List Int)} {i : Nat} (h1 : prevL m i < LA.leadS (m.getD i [])) (h2 : (m.getD i []).getD (LA.leadS (m.getD i [])).toNat 0 = 1) (h3 : allN (clrB m i) m.length = true) : redB m i = true := by
 unfold redB; rw [decide_eq_true h1, decide_eq_true h2, h3]; rfl
end Go.Proofs.YtamibfjeldfphaaGreat

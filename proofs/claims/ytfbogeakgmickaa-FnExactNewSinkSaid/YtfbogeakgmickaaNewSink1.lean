/- The walks of the functions that the law reaches: each summary holds. No condition. -/
import Derived.Test.YtfbogeakgmickaaPY
import Derived.Test.YtfbogeakgmickaaProg
namespace Go.Proofs.Ytfbogeakgmickaa
open Go.RowKit
set_option linter.unusedVariables false
set_option linter.unusedSimpArgs false
abbrev s114 : Sh := .st 114 (.pair (.int 3) (.pair (.int 3) (.int 3)))
abbrev T114 : Type := (Int × (Int × Int))
abbrev s34 : Sh := .sl 34 (.int 3)
abbrev s185 : Sh := .sl 185 s34
abbrev s187 : Sh := .st 187 (.pair (.int 3) s185)
abbrev T187 : Type := (Int × (List (List Int)))
abbrev T38 : Type := (Int × ((List Int) × (List Int)))
abbrev s189 : Sh := .st 189 (.pair (.int 3) (.pair (.int 3) (.pair (.int 3) s187)))
abbrev T189 : Type := (Int × (Int × (Int × T187)))
abbrev s100 : Sh := .sl 100 s189
abbrev s192 : Sh := .st 192 (.pair (.int 3) s185)
abbrev T192 : Type := (Int × (List (List Int)))
abbrev s101 : Sh := .sl 101 s192
abbrev T148 : Type := (Int × (Int × (Int × ((List T38) × Int))))
abbrev T92 : Type := (Int × (List T148))
abbrev s103 : Sh := .st 103 (.pair (.int 3) (.pair (.int 3) (.pair s34 (.pair s100 (.pair s101 (.int 3))))))
abbrev T103 : Type := (Int × (Int × ((List Int) × ((List T189) × ((List T192) × Int)))))
def gam : Gam := [(34, (.int 3), 8), (26, s114, 24)]
theorem gamOK : GamOK Try.prog gam := (.cons (Elem.of (.int .i64 0) Try.underlying34 (by kernel_rfl) rfl (by decide) (by decide)) (.cons (Elem.of (.agg #[(.int .i64 0), (.int .i64 0), (.int .i64 0)]) Try.underlying26 (by kernel_rfl) rfl (by decide) (by decide)) .nil))
theorem mixed : Try.prog.follows .mixedOrders = true := by kernel_rfl

def inR (n lo hi : Int) : Bool := decide (lo ≤ n ∧ n ≤ hi)
theorem inR_t {n a b : Int} (h : inR n a b = true) : a ≤ n ∧ n ≤ b := of_decide_eq_true h
theorem inR_f {n a b : Int} (h : inR n a b = false) : n < a ∨ b < n := by have := of_decide_eq_false h; omega
theorem inR_true {n a b : Int} (h : a ≤ n ∧ n ≤ b) : inR n a b = true := decide_eq_true h
theorem inR_false {n a b : Int} (h : ¬ (a ≤ n ∧ n ≤ b)) : inR n a b = false := decide_eq_false h
def lenOK {α : Type} (xs : List α) : Prop := xs.length ≤ 1073741824
def idL {α : Type} (xs : List α) : List α := xs
section
variable {α β : Type}
/-- none of the first i -/
def noneTo (p : α → Bool) (xs : List α) (z : α) (i : Nat) : Prop := ∀ j, j < i → p (xs.getD j z) = false
def idxF (p : α → Bool) : List α → Int
  | [] => -1
  | x :: l => if p x = true then 0 else if idxF p l < 0 then -1 else idxF p l + 1
theorem noneTo_zero {p : α → Bool} {xs : List α} {z : α} : noneTo p xs z 0 := fun j h => by omega
theorem noneTo_succ {p : α → Bool} {xs : List α} {z : α} {i : Nat} (h : noneTo p xs z i) (k : p (xs.getD i z) = false) : noneTo p xs z (i + 1) := fun j hj => by
  by_cases e : j = i
  · subst e; exact k
  · exact h j (by omega)
theorem idxF_at {p : α → Bool} {z : α} : ∀ {xs : List α} {i : Nat}, i < xs.length → noneTo p xs z i → p (xs.getD i z) = true → idxF p xs = i
  | [], _, h, _, _ => by simp at h
  | x :: l, 0, _, _, k => by
    have k : p x = true := k
    simp [idxF, k]
  | x :: l, i + 1, h, hn, k => by
    have h0 : p x = false := hn 0 (by omega)
    have := idxF_at (xs := l) (i := i) (by simpa using h) (fun j hj => by have := hn (j + 1) (by omega); simpa using this) (by simpa using k)
    simp only [idxF, h0, this]
    rw [if_neg (by decide), if_neg (by omega)]
    omega
theorem idxF_none {p : α → Bool} {z : α} : ∀ {xs : List α} {i : Nat}, xs.length ≤ i → noneTo p xs z i → idxF p xs = -1
  | [], _, _, _ => rfl
  | x :: l, 0, h, _ => by simp at h
  | x :: l, i + 1, h, hn => by
    have h0 : p x = false := hn 0 (by omega)
    have := idxF_none (xs := l) (i := i) (by simpa using h) (fun j hj => by have := hn (j + 1) (by omega); simpa using this)
    simp [idxF, h0, this]
theorem idxF_pos {p : α → Bool} : ∀ {xs : List α}, 0 ≤ idxF p xs ↔ xs.any p = true
  | [] => by simp [idxF]
  | x :: l => by
    have := idxF_pos (xs := l) (p := p)
    simp only [idxF, List.any_cons, Bool.or_eq_true, ← this]
    by_cases hx : p x = true
    · simp [hx]
    · rw [if_neg hx]
      split
      · rename_i h; constructor
        · intro h'; omega
        · rintro (h' | h')
          · exact absurd h' hx
          · omega
      · rename_i h; constructor
        · intro h'; right; omega
        · intro _; omega
theorem idxF_any {p : α → Bool} {xs : List α} : decide (idxF p xs ≥ 0) = xs.any p := by
  rw [Bool.eq_iff_iff, decide_eq_true_iff]; exact idxF_pos
/-- the first i alike -/
def allTo2 (e : α → β → Bool) (xs : List α) (ys : List β) (z : α) (y : β) (i : Nat) : Prop := ∀ j, j < i → e (xs.getD j z) (ys.getD j y) = true
def eqF (e : α → β → Bool) : List α → List β → Bool
  | [], [] => true
  | x :: l, y :: l' => e x y && eqF e l l'
  | _, _ => false
theorem allTo2_zero {e : α → β → Bool} {xs : List α} {ys : List β} {z : α} {y : β} : allTo2 e xs ys z y 0 := fun j h => by omega
theorem allTo2_succ {e : α → β → Bool} {xs : List α} {ys : List β} {z : α} {y : β} {i : Nat} (h : allTo2 e xs ys z y i) (k : e (xs.getD i z) (ys.getD i y) = true) : allTo2 e xs ys z y (i + 1) := fun j hj => by
  by_cases e : j = i
  · subst e; exact k
  · exact h j (by omega)
theorem eqF_len {e : α → β → Bool} : ∀ {xs : List α} {ys : List β}, xs.length ≠ ys.length → eqF e xs ys = false
  | [], [], h => absurd rfl h
  | [], _ :: _, _ => rfl
  | _ :: _, [], _ => rfl
  | _ :: l, _ :: l', h => by simp only [eqF]; rw [eqF_len (xs := l) (ys := l') (by simpa using h), Bool.and_false]
theorem eqF_at {e : α → β → Bool} {z : α} {y : β} : ∀ {xs : List α} {ys : List β} {i : Nat}, i < xs.length → i < ys.length → e (xs.getD i z) (ys.getD i y) = false → eqF e xs ys = false
  | x :: l, y' :: l', 0, _, _, h => by
    have h : e x y' = false := h
    simp [eqF, h]
  | x :: l, y' :: l', i + 1, h1, h2, h => by simp only [eqF]; rw [eqF_at (xs := l) (ys := l') (i := i) (by simpa using h1) (by simpa using h2) (by simpa using h), Bool.and_false]
  | [], _, _, h1, _, _ => by simp at h1
  | _ :: _, [], _, _, h2, _ => by simp at h2
theorem eqF_all {e : α → β → Bool} {z : α} {y : β} : ∀ {xs : List α} {ys : List β} {i : Nat}, xs.length = ys.length → xs.length ≤ i → allTo2 e xs ys z y i → eqF e xs ys = true
  | [], [], _, _, _, _ => rfl
  | [], _ :: _, _, h, _, _ => by simp at h
  | _ :: _, [], _, h, _, _ => by simp at h
  | x :: l, y' :: l', 0, _, h, _ => by simp at h
  | x :: l, y' :: l', i + 1, h, hi, ha => by
    have h0 : e x y' = true := ha 0 (by omega)
    simp only [eqF]
    rw [h0, eqF_all (xs := l) (ys := l') (i := i) (by simpa using h) (by simpa using hi) (fun j hj => by have := ha (j + 1) (by omega); simpa using this)]
    rfl
/-- all of the first i -/
def allTo1 (p : α → Bool) (xs : List α) (z : α) (i : Nat) : Prop := ∀ j, j < i → p (xs.getD j z) = true
theorem allTo1_zero {p : α → Bool} {xs : List α} {z : α} : allTo1 p xs z 0 := fun j h => by omega
theorem allTo1_succ {p : α → Bool} {xs : List α} {z : α} {i : Nat} (h : allTo1 p xs z i) (k : p (xs.getD i z) = true) : allTo1 p xs z (i + 1) := fun j hj => by
  by_cases e : j = i
  · subst e; exact k
  · exact h j (by omega)
theorem all_at {p : α → Bool} {xs : List α} {z : α} {i : Nat} (h : i < xs.length) (k : p (xs.getD i z) = false) : xs.all p = false := by
  rw [Bool.eq_false_iff]; intro ha
  have := List.all_eq_true.1 ha _ (getD_mem (z := z) h)
  rw [k] at this; cases this
theorem all_of {p : α → Bool} {xs : List α} {z : α} {i : Nat} (h : xs.length ≤ i) (k : allTo1 p xs z i) : xs.all p = true := by
  rw [List.all_eq_true]; intro x hx
  obtain ⟨j, hj, rfl⟩ := List.getElem_of_mem hx
  have := k j (by omega)
  rwa [getD_of_lt hj] at this
/-- folded so far -/
def foldTo (f : β → α → β) (b : β) (xs : List α) (i : Nat) : β := (xs.take i).foldl f b
theorem foldTo_zero {f : β → α → β} {b : β} {xs : List α} : foldTo f b xs 0 = b := rfl
theorem foldTo_succ {f : β → α → β} {b : β} {xs : List α} {i : Nat} (z : α) (h : i < xs.length) : foldTo f b xs (i + 1) = f (foldTo f b xs i) (xs.getD i z) := by
  unfold foldTo; rw [take_snoc (z := z) h, List.foldl_append]; rfl
theorem foldTo_all {f : β → α → β} {b : β} {xs : List α} {i : Nat} (h : xs.length ≤ i) : foldTo f b xs i = xs.foldl f b := by unfold foldTo; rw [take_all h]
end
theorem beqT {a b : Bool} (h : a = b) : (a == b) = true := by subst h; simp
theorem notF' {b : Bool} (h : b = false) : (!b) = true := by rw [h]; rfl
theorem notT' {b : Bool} (h : b = true) : (!b) = false := by rw [h]; rfl
section
variable {α β : Type}
theorem any_at {p : α → Bool} {xs : List α} {z : α} {i : Nat} (h : i < xs.length) (k : p (xs.getD i z) = true) : xs.any p = true := List.any_eq_true.2 ⟨_, getD_mem h, k⟩
theorem any_of {p : α → Bool} {xs : List α} {z : α} {i : Nat} (h : xs.length ≤ i) (k : noneTo p xs z i) : xs.any p = false := by
  rw [Bool.eq_false_iff]; intro ha
  obtain ⟨x, hx, hp⟩ := List.any_eq_true.1 ha
  obtain ⟨j, hj, rfl⟩ := List.getElem_of_mem hx
  have := k j (by omega)
  rw [getD_of_lt hj, hp] at this; cases this
/-- P holds of all below n -/
def allN (P : Nat → Bool) : Nat → Bool
  | 0 => true
  | n + 1 => allN P n && P n
theorem allN_succ {P : Nat → Bool} {i : Nat} (h : allN P i = true) (k : P i = true) : allN P (i + 1) = true := by simp [allN, h, k]
theorem allN_iff {P : Nat → Bool} : ∀ {n : Nat}, allN P n = true ↔ ∀ j, j < n → P j = true
  | 0 => by simp [allN]
  | n + 1 => by
    simp only [allN, Bool.and_eq_true, allN_iff (n := n)]
    constructor
    · rintro ⟨h1, h2⟩ j hj
      by_cases e : j = n
      · rw [e]; exact h2
      · exact h1 j (by omega)
    · intro h; exact ⟨fun j hj => h j (by omega), h n (by omega)⟩
theorem allN_eq {P : Nat → Bool} {i n : Nat} (h : n ≤ i) (h' : i ≤ n) (k : allN P i = true) : allN P n = true := by rw [show n = i by omega]; exact k
theorem allN_at {P : Nat → Bool} {i n : Nat} (h : i < n) (k : P i = false) : allN P n = false := by
  rw [Bool.eq_false_iff]; intro ha
  rw [allN_iff.1 ha i h] at k; cases k
theorem map_snoc {f : α → β} {xs : List α} {i : Nat} {z : α} (h : i < xs.length) : (xs.take (i + 1)).map f = (xs.take i).map f ++ [f (xs.getD i z)] := by rw [take_snoc (z := z) h, List.map_append]; rfl
theorem filter_snoc_t {p : α → Bool} {xs : List α} {i : Nat} {z : α} (h : i < xs.length) (k : p (xs.getD i z) = true) : (xs.take (i + 1)).filter p = (xs.take i).filter p ++ [xs.getD i z] := by rw [take_snoc (z := z) h, List.filter_append, List.filter_cons_of_pos k]; rfl
theorem filter_snoc_f {p : α → Bool} {xs : List α} {i : Nat} {z : α} (h : i < xs.length) (k : p (xs.getD i z) = false) : (xs.take (i + 1)).filter p = (xs.take i).filter p := by rw [take_snoc (z := z) h, List.filter_append, List.filter_cons_of_neg (by rw [k]; decide)]; simp
theorem len_filter_take {p : α → Bool} {xs : List α} (i : Nat) : ((xs.take i).filter p).length ≤ xs.length := Nat.le_trans (List.length_filter_le _ _) (by simp; omega)
theorem len_take_le {xs : List α} (i : Nat) : (xs.take i).length ≤ xs.length := by simp; omega
end
theorem any_not {α : Type} (p : α → Bool) (xs : List α) : (xs.any fun e => !p e) = !(xs.all p) := by
  induction xs with
  | nil => rfl
  | cons x l ih => rw [List.any_cons, List.all_cons, ih, Bool.not_and]
theorem allEq_comm : ∀ (a b : List Int), allEq a b = allEq b a
  | [], [] => rfl
  | [], _ :: _ => rfl
  | _ :: _, [] => rfl
  | a :: l, b :: l' => by simp only [allEq, allEq_comm l l']; rw [show decide (a = b) = decide (b = a) from by rw [decide_eq_decide]; exact eq_comm]

def S_slices_Clone_S_int_int_ : Sum := { fid := 138, dom := [s34], cod := [s34], dp := true, fz := false, pre := fun x => (lenOK (α := Int)) x.1, g := fun x => (((idL (α := Int)) x.1), ()) }
def S_slices_Clone_S_int_int__tab : List (Nat × Sum) := []
theorem S_slices_Clone_S_int_int__ok : FnOK Try.prog 138 S_slices_Clone_S_int_int_ := by
  refine at_enter 8 (fun x => ⟨[(0, aF (.int 3) x.1)], []⟩) Try.func138 rfl (by kernel_rfl) (fun x => rfl) ?_
  rintro w0 Z0 ⟨x0, u⟩ a w
  revert x0
  intro (x0 : (List Int)) hpre hlens h
  replace h : At w0 Z0 [] 8 ⟨[(0, aF (.int 3) x0)], []⟩ a w := h
  replace hpre : (lenOK (α := Int)) x0 := hpre
  have hl1 : List.length x0 ≤ 9223372036854775807 := hlens.1.1
  have hT : TabOK Try.prog S_slices_Clone_S_int_int__tab := .nil
  have hp : List.length x0 ≤ 1073741824 := hpre
  refine wp_seq ?_
  refine at_regq (T := S_slices_Clone_S_int_int__tab) [] { ts := [0, 2], os := [] } [] gamOK hT h (by kernel_rfl) trivial ?_
  intro a w h
  refine then_normal ?_
  refine wp_seq ?_
  refine wp_seq ?_
  refine at_regq (T := S_slices_Clone_S_int_int__tab) [] { ts := [0, 2, 4], os := [] } [] gamOK hT h (by kernel_rfl) trivial ?_
  intro a w h
  refine then_normal ?_
  refine at_nil (List.length x0) h (by kernel_rfl) (fun h1 => ?_) ?_
  · skip
    refine wp_seq ?_
    refine at_regq (T := S_slices_Clone_S_int_int__tab) [] { ts := [0, 2], os := [] } [] gamOK hT h (by kernel_rfl) trivial ?_
    intro a w h
    refine then_normal ?_
    refine wp_ret ?_
    refine then_ret ?_
    exact at_return (S := S_slices_Clone_S_int_int_) (x := (x0, ())) (([] : List Int), ()) [] h (by kernel_rfl) trivial (congrArg (fun z => (z, ())) (show (([] : List Int)) = (idL (α := Int)) x0 from by (show [] = x0; exact (List.eq_nil_of_length_eq_zero h1).symm)))
  · skip
    refine wp_skip ?_
    refine then_normal ?_
    refine wp_seq ?_
    refine at_regq (T := S_slices_Clone_S_int_int__tab) [{ ids := [1] }, {}, { ids := [2] }] { ts := [2], os := [2] } [(List.length ([] : List Int) + List.length x0) * 8 ≤ 140737488355328] gamOK hT h (by kernel_rfl) ⟨(by first | omega | (simp only [List.length_append, List.length_cons, List.length_nil, List.length_set, List.length_take, List.length_drop, List.length_replicate, List.length_map, Nat.min_def]; omega) | (simp; done) | (simp; omega) | done), trivial⟩ ?_
    intro a w h
    refine then_normal ?_
    refine wp_ret ?_
    exact at_return (S := S_slices_Clone_S_int_int_) (x := (x0, ())) ((([] : List Int) ++ x0), ()) [] h (by kernel_rfl) trivial (congrArg (fun z => (z, ())) (show ((([] : List Int) ++ x0)) = (idL (α := Int)) x0 from by (show [] ++ x0 = x0; rfl)))


def pTrue {α : Type} (_ : α) : Prop := True

def S_impl_InRange : Sum := { fid := 103, dom := [(.int 3), (.int 3), (.int 3)], cod := [(.bool 4)], dp := true, fz := false, pre := fun x => True, g := fun x => ((inR x.1 x.2.1 x.2.2.1), ()) }
def S_impl_InRange_tab : List (Nat × Sum) := []
theorem S_impl_InRange_ok : FnOK Try.prog 103 S_impl_InRange := by
  refine at_enter 15 (fun x => ⟨[(0, aI x.1), (1, aI x.2.1), (2, aI x.2.2.1)], []⟩) Try.func103 rfl (by kernel_rfl) (fun x => rfl) ?_
  rintro w0 Z0 ⟨x0, x1, x2, u⟩ a w
  revert x0 x1 x2
  intro (x0 : Int) (x1 : Int) (x2 : Int) hpre hlens h
  replace h : At w0 Z0 [] 15 ⟨[(0, aI x0), (1, aI x1), (2, aI x2)], []⟩ a w := h
  have hT : TabOK Try.prog S_impl_InRange_tab := .nil
  refine wp_seq ?_
  refine at_regq (T := S_impl_InRange_tab) [] { ts := [0, 1, 2, 6], os := [] } [] gamOK hT h (by kernel_rfl) trivial ?_
  intro a w h
  refine then_normal ?_
  refine wp_seq ?_
  by_cases h1 : x1 ≤ x0
  · skip
    refine at_regq (T := S_impl_InRange_tab) [{}, {}, { hint := some (aB true) }] { ts := [6], os := [] } [(AV.p (.c (.v (.bool (decide (x1 ≤ x0))))) = AV.p (.c (.v (.bool true))))] gamOK hT h (by kernel_rfl) ⟨hint_bool (decide_eq_true h1), trivial⟩ ?_
    intro a w h
    refine then_normal ?_
    refine wp_ret ?_
    exact at_return (S := S_impl_InRange) (x := (x0, x1, x2, ())) (decide (x0 ≤ x2), ()) [] h (by kernel_rfl) trivial (congrArg (fun z => (z, ())) (show (decide (x0 ≤ x2)) = inR x0 x1 x2 from by (unfold inR; simp [*]; done)))
  · skip
    refine at_regq (T := S_impl_InRange_tab) [{}, {}, { hint := some (aB false) }] { ts := [6], os := [] } [(AV.p (.c (.v (.bool (decide (x1 ≤ x0))))) = AV.p (.c (.v (.bool false))))] gamOK hT h (by kernel_rfl) ⟨hint_bool (decide_eq_false h1), trivial⟩ ?_
    intro a w h
    refine then_normal ?_
    refine wp_ret ?_
    exact at_return (S := S_impl_InRange) (x := (x0, x1, x2, ())) (false, ()) [] h (by kernel_rfl) trivial (congrArg (fun z => (z, ())) (show (false) = inR x0 x1 x2 from by (unfold inR; simp [*]; done)))

def S_spec_l1In : Sum := { fid := 135, dom := [(.int 3), (.int 3), (.int 3)], cod := [(.bool 4)], dp := true, fz := false, pre := fun x => True, g := fun x => ((inR x.1 x.2.1 x.2.2.1), ()) }
def S_spec_l1In_tab : List (Nat × Sum) := []
theorem S_spec_l1In_ok : FnOK Try.prog 135 S_spec_l1In := by
  refine at_enter 15 (fun x => ⟨[(0, aI x.1), (1, aI x.2.1), (2, aI x.2.2.1)], []⟩) Try.func135 rfl (by kernel_rfl) (fun x => rfl) ?_
  rintro w0 Z0 ⟨x0, x1, x2, u⟩ a w
  revert x0 x1 x2
  intro (x0 : Int) (x1 : Int) (x2 : Int) hpre hlens h
  replace h : At w0 Z0 [] 15 ⟨[(0, aI x0), (1, aI x1), (2, aI x2)], []⟩ a w := h
  have hT : TabOK Try.prog S_spec_l1In_tab := .nil
  refine wp_seq ?_
  refine at_regq (T := S_spec_l1In_tab) [] { ts := [0, 1, 2, 6], os := [] } [] gamOK hT h (by kernel_rfl) trivial ?_
  intro a w h
  refine then_normal ?_
  refine wp_seq ?_
  by_cases h1 : x0 ≥ x1
  · skip
    refine at_regq (T := S_spec_l1In_tab) [{}, {}, { hint := some (aB true) }] { ts := [6], os := [] } [(AV.p (.c (.v (.bool (decide (x0 ≥ x1))))) = AV.p (.c (.v (.bool true))))] gamOK hT h (by kernel_rfl) ⟨hint_bool (decide_eq_true h1), trivial⟩ ?_
    intro a w h
    refine then_normal ?_
    refine wp_ret ?_
    exact at_return (S := S_spec_l1In) (x := (x0, x1, x2, ())) (decide (x0 ≤ x2), ()) [] h (by kernel_rfl) trivial (congrArg (fun z => (z, ())) (show (decide (x0 ≤ x2)) = inR x0 x1 x2 from by (unfold inR; first | (simp only [ge_iff_le] at *; simp [*]; done) | (rw [decide_eq_false]; omega))))
  · skip
    refine at_regq (T := S_spec_l1In_tab) [{}, {}, { hint := some (aB false) }] { ts := [6], os := [] } [(AV.p (.c (.v (.bool (decide (x0 ≥ x1))))) = AV.p (.c (.v (.bool false))))] gamOK hT h (by kernel_rfl) ⟨hint_bool (decide_eq_false h1), trivial⟩ ?_
    intro a w h
    refine then_normal ?_
    refine wp_ret ?_
    exact at_return (S := S_spec_l1In) (x := (x0, x1, x2, ())) (false, ()) [] h (by kernel_rfl) trivial (congrArg (fun z => (z, ())) (show (false) = inR x0 x1 x2 from by (unfold inR; first | (simp only [ge_iff_le] at *; simp [*]; done) | (rw [decide_eq_false]; omega))))




def S_laws_eqIntS : Sum := { fid := 35, dom := [s34, s34], cod := [(.bool 4)], dp := true, fz := false, pre := fun x => True, g := fun x => (((Sh.eqB s34) x.1 x.2.1), ()) }
def S_laws_eqIntS_tab : List (Nat × Sum) := []
theorem S_laws_eqIntS_ok : FnOK Try.prog 35 S_laws_eqIntS := by
  refine at_enter 26 (fun x => ⟨[(0, aF (.int 3) x.1), (1, aF (.int 3) x.2.1)], []⟩) Try.func35 rfl (by kernel_rfl) (fun x => rfl) ?_
  rintro w0 Z0 ⟨x0, x1, u⟩ a w
  revert x0 x1
  intro (x0 : (List Int)) (x1 : (List Int)) hpre hlens h
  replace h : At w0 Z0 [] 26 ⟨[(0, aF (.int 3) x0), (1, aF (.int 3) x1)], []⟩ a w := h
  have hl1 : List.length x0 ≤ 9223372036854775807 := hlens.1.1
  have hl2 : List.length x1 ≤ 9223372036854775807 := hlens.2.1.1
  have hT : TabOK Try.prog S_laws_eqIntS_tab := .nil
  refine wp_seq ?_
  refine at_regq (T := S_laws_eqIntS_tab) [] { ts := [0, 1, 4], os := [] } [] gamOK hT h (by kernel_rfl) trivial ?_
  intro a w h
  refine then_normal ?_
  refine wp_seq ?_
  refine wp_seq ?_
  refine at_regq (T := S_laws_eqIntS_tab) [] { ts := [0, 1, 4, 10], os := [] } [] gamOK hT h (by kernel_rfl) trivial ?_
  intro a w h
  refine then_normal ?_
  refine at_test (!decide (((List.length x0 : Nat) : Int) = ((List.length x1 : Nat) : Int))) h (by kernel_rfl) (fun h1 => ?_) (fun h1 => ?_)
  · replace h1 : ¬ (((List.length x0 : Nat) : Int) = ((List.length x1 : Nat) : Int)) := by simpa using h1
    refine wp_seq ?_
    refine at_regq (T := S_laws_eqIntS_tab) [] { ts := [0, 1, 4], os := [] } [] gamOK hT h (by kernel_rfl) trivial ?_
    intro a w h
    refine then_normal ?_
    refine wp_ret ?_
    refine then_ret ?_
    exact at_return (S := S_laws_eqIntS) (x := (x0, x1, ())) (false, ()) [] h (by kernel_rfl) trivial (congrArg (fun z => (z, ())) (show (false) = (Sh.eqB s34) x0 x1 from by exact (Sh.eqB_ne (fun e => h1 (by rw [e]))).symm))
  · replace h1 : ((List.length x0 : Nat) : Int) = ((List.length x1 : Nat) : Int) := by simpa using h1
    refine wp_skip ?_
    refine then_normal ?_
    refine wp_seq ?_
    refine wp_seq ?_
    refine at_regq (T := S_laws_eqIntS_tab) [] { ts := [0, 1, 4, 5], os := [] } [] gamOK hT h (by kernel_rfl) trivial ?_
    intro a w h
    refine then_normal ?_
    refine wp_block ?_
    replace h := at_out (σ' := ⟨[(0, aF (.int 3) x0), (1, aF (.int 3) x1), (4, aB false), (5, aI 0)], []⟩) { ts := [0, 1, 4, 5], os := [] } h (by kernel_rfl)
    refine at_loop (fun i : Nat => (⟨[(0, aF (.int 3) x0), (1, aF (.int 3) x1), (4, aB false), (5, aI ((i : Nat) : Int))], []⟩ : St)) (fun i => (i ≤ List.length x0 ∧ x0.take i = x1.take i)) (fun i => List.length x0 - i) (0) h (st_congr1 (fun (d0 : Int) => (⟨[(0, aF (.int 3) x0), (1, aF (.int 3) x1), (4, aB false), (5, aI d0)], []⟩ : St)) (show (0 : Int) = (((0) : Nat) : Int) from by first | rfl | (rfl))) (by exact ⟨Nat.zero_le _, rfl⟩) ?_
    intro i a w hok0 h
    refine wp_seq ?_
    refine wp_seq ?_
    refine at_reg (T := S_laws_eqIntS_tab) [] { ts := [0, 1, 4, 5, 14], os := [] } ⟨[(0, aF (.int 3) x0), (1, aF (.int 3) x1), (4, aB false), (5, aI ((i : Nat) : Int)), (14, aB (decide (((i : Nat) : Int) < ((List.length x0 : Nat) : Int))))], []⟩ [] gamOK hT h (by kernel_rfl) trivial ?_
    intro a w h
    refine then_normal ?_
    refine at_test (decide (((i : Nat) : Int) < ((List.length x0 : Nat) : Int))) h (by kernel_rfl) (fun h2 => ?_) (fun h2 => ?_)
    · replace h2 : ((i : Nat) : Int) < ((List.length x0 : Nat) : Int) := of_decide_eq_true h2
      refine wp_skip ?_
      refine then_normal ?_
      refine wp_seq ?_
      refine wp_block ?_
      refine wp_seq ?_
      refine at_anyq (T := S_laws_eqIntS_tab) [{}, {}, {}, {}, {}, {}, {}, {}, {}] { ts := [0, 1, 4, 5, 25], os := [] } [(0 : Int) ≤ ((i : Nat) : Int) ∧ ((i : Nat) : Int) < ((List.length x0 : Nat) : Int), (0 : Int) ≤ ((i : Nat) : Int) ∧ ((i : Nat) : Int) < ((List.length x1 : Nat) : Int)] gamOK hT mixed h (by kernel_rfl) ⟨(by refine ⟨?_, ?_⟩ <;> (first | omega | (simp only [List.length_append, List.length_cons, List.length_nil, List.length_set, List.length_take, List.length_drop, List.length_replicate, List.length_map, Nat.min_def]; omega) | (simp; done) | (simp; omega) | done)), (by refine ⟨?_, ?_⟩ <;> (first | omega | (simp only [List.length_append, List.length_cons, List.length_nil, List.length_set, List.length_take, List.length_drop, List.length_replicate, List.length_map, Nat.min_def]; omega) | (simp; done) | (simp; omega) | done)), trivial⟩ ?_
      intro a w h
      refine then_normal ?_
      refine at_test (!decide ((x0.getD i 0) = (x1.getD i 0))) h (by kernel_rfl) (fun h3 => ?_) (fun h3 => ?_)
      · replace h3 : ¬ ((x0.getD i 0) = (x1.getD i 0)) := by simpa using h3
        refine wp_seq ?_
        refine at_regq (T := S_laws_eqIntS_tab) [] { ts := [0, 1, 4, 5], os := [] } [] gamOK hT h (by kernel_rfl) trivial ?_
        intro a w h
        refine then_normal ?_
        refine wp_ret ?_
        refine in_ret ?_
        refine then_ret ?_
        refine then_ret ?_
        refine in_ret ?_
        refine then_ret ?_
        exact at_return (S := S_laws_eqIntS) (x := (x0, x1, ())) (false, ()) [] h (by kernel_rfl) trivial (congrArg (fun z => (z, ())) (show (false) = (Sh.eqB s34) x0 x1 from by exact (Sh.eqB_ne (s := s34) (fun e => h3 (by rw [e]))).symm))
      · replace h3 : (x0.getD i 0) = (x1.getD i 0) := by simpa using h3
        refine wp_skip ?_
        refine in_normal ?_
        refine then_normal ?_
        refine at_regq (T := S_laws_eqIntS_tab) [{}, { nw := true }] { ts := [0, 1, 4, 5], os := [] } [I64 (((i : Nat) : Int) + 1)] gamOK hT h (by kernel_rfl) ⟨⟨by first | omega | (simp only [List.length_append, List.length_cons, List.length_nil, List.length_set, List.length_take, List.length_drop, List.length_replicate, List.length_map, Nat.min_def]; omega) | (simp; done) | (simp; omega) | done, by first | omega | (simp only [List.length_append, List.length_cons, List.length_nil, List.length_set, List.length_take, List.length_drop, List.length_replicate, List.length_map, Nat.min_def]; omega) | (simp; done) | (simp; omega) | done⟩, trivial⟩ ?_
        intro a w h
        replace h := at_out (σ' := ⟨[(0, aF (.int 3) x0), (1, aF (.int 3) x1), (4, aB false), (5, aI (((i : Nat) : Int) + 1))], []⟩) { ts := [0, 1, 4, 5], os := [] } h (by kernel_rfl)
        exact ⟨i + 1, at_eq h (st_congr1 (fun (d0 : Int) => (⟨[(0, aF (.int 3) x0), (1, aF (.int 3) x1), (4, aB false), (5, aI d0)], []⟩ : St)) (show (((i : Nat) : Int) + 1 : Int) = (((i + 1) : Nat) : Int) from by first | rfl | (omega))), (by exact ⟨by omega, eqTo_step (z := 0) (by omega) (by omega) hok0.2 h3⟩), (by omega)⟩
    · replace h2 : ¬ (((i : Nat) : Int) < ((List.length x0 : Nat) : Int)) := of_decide_eq_false h2
      refine wp_exit ?_
      refine then_exit ?_
      refine then_exit ?_
      refine in_hit ?_
      refine then_normal ?_
      refine wp_seq ?_
      refine at_regq (T := S_laws_eqIntS_tab) [] { ts := [4], os := [] } [] gamOK hT h (by kernel_rfl) trivial ?_
      intro a w h
      refine then_normal ?_
      refine wp_ret ?_
      exact at_return (S := S_laws_eqIntS) (x := (x0, x1, ())) (true, ()) [] h (by kernel_rfl) trivial (congrArg (fun z => (z, ())) (show (true) = (Sh.eqB s34) x0 x1 from by (have e := hok0.2; rw [take_all (by omega), take_all (by omega)] at e; exact ((Sh.eqB_iff s34).2 e).symm)))

def S_laws_eqIntSS : Sum := { fid := 195, dom := [s185, s185], cod := [(.bool 4)], dp := true, fz := false, pre := fun x => True, g := fun x => (((Sh.eqB s185) x.1 x.2.1), ()) }
def S_laws_eqIntSS_tab : List (Nat × Sum) := [(35, S_laws_eqIntS)]
theorem S_laws_eqIntSS_ok : FnOK Try.prog 195 S_laws_eqIntSS := by
  refine at_enter 27 (fun x => ⟨[(0, aF s34 x.1), (1, aF s34 x.2.1)], []⟩) Try.func195 rfl (by kernel_rfl) (fun x => rfl) ?_
  rintro w0 Z0 ⟨x0, x1, u⟩ a w
  revert x0 x1
  intro (x0 : (List (List Int))) (x1 : (List (List Int))) hpre hlens h
  replace h : At w0 Z0 [] 27 ⟨[(0, aF s34 x0), (1, aF s34 x1)], []⟩ a w := h
  have hl1 : List.length x0 ≤ 9223372036854775807 := hlens.1.1
  have hl2 : List.length x1 ≤ 9223372036854775807 := hlens.2.1.1
  have hT : TabOK Try.prog S_laws_eqIntSS_tab := (.cons S_laws_eqIntS_ok .nil)
  refine wp_seq ?_
  refine at_regq (T := S_laws_eqIntSS_tab) [] { ts := [0, 1, 4], os := [] } [] gamOK hT h (by kernel_rfl) trivial ?_
  intro a w h
  refine then_normal ?_
  refine wp_seq ?_
  refine wp_seq ?_
  refine at_regq (T := S_laws_eqIntSS_tab) [] { ts := [0, 1, 4, 10], os := [] } [] gamOK hT h (by kernel_rfl) trivial ?_
  intro a w h
  refine then_normal ?_
  refine at_test (!decide (((List.length x0 : Nat) : Int) = ((List.length x1 : Nat) : Int))) h (by kernel_rfl) (fun h1 => ?_) (fun h1 => ?_)
  · replace h1 : ¬ (((List.length x0 : Nat) : Int) = ((List.length x1 : Nat) : Int)) := by simpa using h1
    refine wp_seq ?_
    refine at_regq (T := S_laws_eqIntSS_tab) [] { ts := [0, 1, 4], os := [] } [] gamOK hT h (by kernel_rfl) trivial ?_
    intro a w h
    refine then_normal ?_
    refine wp_ret ?_
    refine then_ret ?_
    exact at_return (S := S_laws_eqIntSS) (x := (x0, x1, ())) (false, ()) [] h (by kernel_rfl) trivial (congrArg (fun z => (z, ())) (show (false) = (Sh.eqB s185) x0 x1 from by exact (Sh.eqB_ne (fun e => h1 (by rw [e]))).symm))
  · replace h1 : ((List.length x0 : Nat) : Int) = ((List.length x1 : Nat) : Int) := by simpa using h1
    refine wp_skip ?_
    refine then_normal ?_
    refine wp_seq ?_
    refine wp_seq ?_
    refine at_regq (T := S_laws_eqIntSS_tab) [] { ts := [0, 1, 4, 5], os := [] } [] gamOK hT h (by kernel_rfl) trivial ?_
    intro a w h
    refine then_normal ?_
    refine wp_block ?_
    replace h := at_out (σ' := ⟨[(0, aF s34 x0), (1, aF s34 x1), (4, aB false), (5, aI 0)], []⟩) { ts := [0, 1, 4, 5], os := [] } h (by kernel_rfl)
    refine at_loop (fun i : Nat => (⟨[(0, aF s34 x0), (1, aF s34 x1), (4, aB false), (5, aI ((i : Nat) : Int))], []⟩ : St)) (fun i => (i ≤ List.length x0 ∧ x0.take i = x1.take i)) (fun i => List.length x0 - i) (0) h (st_congr1 (fun (d0 : Int) => (⟨[(0, aF s34 x0), (1, aF s34 x1), (4, aB false), (5, aI d0)], []⟩ : St)) (show (0 : Int) = (((0) : Nat) : Int) from by first | rfl | (rfl))) (by exact ⟨Nat.zero_le _, rfl⟩) ?_
    intro i a w hok0 h
    refine wp_seq ?_
    refine wp_seq ?_
    refine at_reg (T := S_laws_eqIntSS_tab) [] { ts := [0, 1, 4, 5, 14], os := [] } ⟨[(0, aF s34 x0), (1, aF s34 x1), (4, aB false), (5, aI ((i : Nat) : Int)), (14, aB (decide (((i : Nat) : Int) < ((List.length x0 : Nat) : Int))))], []⟩ [] gamOK hT h (by kernel_rfl) trivial ?_
    intro a w h
    refine then_normal ?_
    refine at_test (decide (((i : Nat) : Int) < ((List.length x0 : Nat) : Int))) h (by kernel_rfl) (fun h2 => ?_) (fun h2 => ?_)
    · replace h2 : ((i : Nat) : Int) < ((List.length x0 : Nat) : Int) := of_decide_eq_true h2
      refine wp_skip ?_
      refine then_normal ?_
      refine wp_seq ?_
      refine wp_block ?_
      refine wp_seq ?_
      refine at_anyq (T := S_laws_eqIntSS_tab) [{}, {}, {}, {}, {}, {}, {}, {}, {}, {}] { ts := [0, 1, 4, 5, 26], os := [] } [(0 : Int) ≤ ((i : Nat) : Int) ∧ ((i : Nat) : Int) < ((List.length x0 : Nat) : Int), (0 : Int) ≤ ((i : Nat) : Int) ∧ ((i : Nat) : Int) < ((List.length x1 : Nat) : Int), True] gamOK hT mixed h (by kernel_rfl) ⟨(by refine ⟨?_, ?_⟩ <;> (first | omega | (simp only [List.length_append, List.length_cons, List.length_nil, List.length_set, List.length_take, List.length_drop, List.length_replicate, List.length_map, Nat.min_def]; omega) | (simp; done) | (simp; omega) | done)), (by refine ⟨?_, ?_⟩ <;> (first | omega | (simp only [List.length_append, List.length_cons, List.length_nil, List.length_set, List.length_take, List.length_drop, List.length_replicate, List.length_map, Nat.min_def]; omega) | (simp; done) | (simp; omega) | done)), trivial, trivial⟩ ?_
      intro a w h
      refine then_normal ?_
      refine at_test (!((Sh.eqB s34) (x0.getD i []) (x1.getD i []))) h (by kernel_rfl) (fun h3 => ?_) (fun h3 => ?_)
      · replace h3 : ((Sh.eqB s34) (x0.getD i []) (x1.getD i [])) = false := notT h3
        refine wp_seq ?_
        refine at_regq (T := S_laws_eqIntSS_tab) [] { ts := [0, 1, 4, 5], os := [] } [] gamOK hT h (by kernel_rfl) trivial ?_
        intro a w h
        refine then_normal ?_
        refine wp_ret ?_
        refine in_ret ?_
        refine then_ret ?_
        refine then_ret ?_
        refine in_ret ?_
        refine then_ret ?_
        exact at_return (S := S_laws_eqIntSS) (x := (x0, x1, ())) (false, ()) [] h (by kernel_rfl) trivial (congrArg (fun z => (z, ())) (show (false) = (Sh.eqB s185) x0 x1 from by exact (Sh.eqB_ne (s := s185) (fun e => Sh.of_eqB_ne h3 (by rw [e]))).symm))
      · replace h3 : ((Sh.eqB s34) (x0.getD i []) (x1.getD i [])) = true := notF h3
        refine wp_skip ?_
        refine in_normal ?_
        refine then_normal ?_
        refine at_regq (T := S_laws_eqIntSS_tab) [{}, { nw := true }] { ts := [0, 1, 4, 5], os := [] } [I64 (((i : Nat) : Int) + 1)] gamOK hT h (by kernel_rfl) ⟨⟨by first | omega | (simp only [List.length_append, List.length_cons, List.length_nil, List.length_set, List.length_take, List.length_drop, List.length_replicate, List.length_map, Nat.min_def]; omega) | (simp; done) | (simp; omega) | done, by first | omega | (simp only [List.length_append, List.length_cons, List.length_nil, List.length_set, List.length_take, List.length_drop, List.length_replicate, List.length_map, Nat.min_def]; omega) | (simp; done) | (simp; omega) | done⟩, trivial⟩ ?_
        intro a w h
        replace h := at_out (σ' := ⟨[(0, aF s34 x0), (1, aF s34 x1), (4, aB false), (5, aI (((i : Nat) : Int) + 1))], []⟩) { ts := [0, 1, 4, 5], os := [] } h (by kernel_rfl)
        exact ⟨i + 1, at_eq h (st_congr1 (fun (d0 : Int) => (⟨[(0, aF s34 x0), (1, aF s34 x1), (4, aB false), (5, aI d0)], []⟩ : St)) (show (((i : Nat) : Int) + 1 : Int) = (((i + 1) : Nat) : Int) from by first | rfl | (omega))), (by exact ⟨by omega, eqTo_step (z := []) (by omega) (by omega) hok0.2 (Sh.of_eqB h3)⟩), (by omega)⟩
    · replace h2 : ¬ (((i : Nat) : Int) < ((List.length x0 : Nat) : Int)) := of_decide_eq_false h2
      refine wp_exit ?_
      refine then_exit ?_
      refine then_exit ?_
      refine in_hit ?_
      refine then_normal ?_
      refine wp_seq ?_
      refine at_regq (T := S_laws_eqIntSS_tab) [] { ts := [4], os := [] } [] gamOK hT h (by kernel_rfl) trivial ?_
      intro a w h
      refine then_normal ?_
      refine wp_ret ?_
      exact at_return (S := S_laws_eqIntSS) (x := (x0, x1, ())) (true, ()) [] h (by kernel_rfl) trivial (congrArg (fun z => (z, ())) (show (true) = (Sh.eqB s185) x0 x1 from by (have e := hok0.2; rw [take_all (by omega), take_all (by omega)] at e; exact ((Sh.eqB_iff s185).2 e).symm)))

def S_laws_eqBasis : Sum := { fid := 194, dom := [s187, s187], cod := [(.bool 4)], dp := true, fz := false, pre := fun x => True, g := fun x => (((Sh.eqB s187) x.1 x.2.1), ()) }
def S_laws_eqBasis_tab : List (Nat × Sum) := [(195, S_laws_eqIntSS)]
theorem S_laws_eqBasis_ok : FnOK Try.prog 194 S_laws_eqBasis := by
  refine at_enter 16 (fun x => ⟨[(0, aG [cI x.1.1, .ro s34 x.1.2]), (1, aG [cI x.2.1.1, .ro s34 x.2.1.2])], []⟩) Try.func194 rfl (by kernel_rfl) (fun x => rfl) ?_
  rintro w0 Z0 ⟨x0, x1, u⟩ a w
  revert x0 x1
  intro (x0 : T187) (x1 : T187) hpre hlens h
  replace h : At w0 Z0 [] 16 ⟨[(0, aG [cI x0.1, .ro s34 x0.2]), (1, aG [cI x1.1, .ro s34 x1.2])], []⟩ a w := h
  have hl1 : List.length x0.2 ≤ 9223372036854775807 := hlens.1.2.1
  have hl2 : List.length x1.2 ≤ 9223372036854775807 := hlens.2.1.2.1
  have hT : TabOK Try.prog S_laws_eqBasis_tab := (.cons S_laws_eqIntSS_ok .nil)
  refine wp_seq ?_
  refine at_regq (T := S_laws_eqBasis_tab) [{ ids := [1] }, { ids := [2] }] { ts := [2, 3, 4], os := [1, 2] } [] gamOK hT h (by kernel_rfl) trivial ?_
  intro a w h
  refine then_normal ?_
  refine wp_seq ?_
  refine wp_seq ?_
  refine at_regq (T := S_laws_eqBasis_tab) [] { ts := [2, 3, 4, 9], os := [1, 2] } [] gamOK hT h (by kernel_rfl) trivial ?_
  intro a w h
  refine then_normal ?_
  refine at_test (!decide (x0.1 = x1.1)) h (by kernel_rfl) (fun h1 => ?_) (fun h1 => ?_)
  · replace h1 : ¬ (x0.1 = x1.1) := by simpa using h1
    refine wp_seq ?_
    refine at_regq (T := S_laws_eqBasis_tab) [] { ts := [2, 3, 4], os := [1, 2] } [] gamOK hT h (by kernel_rfl) trivial ?_
    intro a w h
    refine then_normal ?_
    refine wp_ret ?_
    refine then_ret ?_
    exact at_return (S := S_laws_eqBasis) (x := (x0, x1, ())) (false, ()) [] h (by kernel_rfl) trivial (congrArg (fun z => (z, ())) (show (false) = (Sh.eqB s187) x0 x1 from by exact (Sh.eqB_ne (s := s187) (fun e => h1 (congrArg (fun (y : T187) => y.1) e))).symm))
  · replace h1 : x0.1 = x1.1 := by simpa using h1
    refine wp_skip ?_
    refine then_normal ?_
    refine wp_seq ?_
    refine wp_seq ?_
    refine at_regq (T := S_laws_eqBasis_tab) [] { ts := [4, 15], os := [] } [True] gamOK hT h (by kernel_rfl) ⟨trivial, trivial⟩ ?_
    intro a w h
    refine then_normal ?_
    refine at_test (!((Sh.eqB s185) x0.2 x1.2)) h (by kernel_rfl) (fun h2 => ?_) (fun h2 => ?_)
    · replace h2 : ((Sh.eqB s185) x0.2 x1.2) = false := notT h2
      refine wp_seq ?_
      refine at_reg (T := S_laws_eqBasis_tab) [] { ts := [4], os := [] } ⟨[(4, aB false)], []⟩ [] gamOK hT h (by kernel_rfl) trivial ?_
      intro a w h
      refine then_normal ?_
      refine wp_ret ?_
      refine then_ret ?_
      exact at_return (S := S_laws_eqBasis) (x := (x0, x1, ())) (false, ()) [] h (by kernel_rfl) trivial (congrArg (fun z => (z, ())) (show (false) = (Sh.eqB s187) x0 x1 from by exact (Sh.eqB_ne (s := s187) (fun e => Sh.of_eqB_ne h2 (congrArg (fun (y : T187) => y.2) e))).symm))
    · replace h2 : ((Sh.eqB s185) x0.2 x1.2) = true := notF h2
      refine wp_skip ?_
      refine then_normal ?_
      refine wp_seq ?_
      refine at_reg (T := S_laws_eqBasis_tab) [] { ts := [4], os := [] } ⟨[(4, aB true)], []⟩ [] gamOK hT h (by kernel_rfl) trivial ?_
      intro a w h
      refine then_normal ?_
      refine wp_ret ?_
      exact at_return (S := S_laws_eqBasis) (x := (x0, x1, ())) (true, ()) [] h (by kernel_rfl) trivial (congrArg (fun z => (z, ())) (show (true) = (Sh.eqB s187) x0 x1 from by exact ((Sh.eqB_iff s187).2 (Prod.ext h1 (Sh.of_eqB h2))).symm))

def S_laws_eqDecoder : Sum := { fid := 176, dom := [s189, s189], cod := [(.bool 4)], dp := true, fz := false, pre := fun x => True, g := fun x => (((Sh.eqB s189) x.1 x.2.1), ()) }
def S_laws_eqDecoder_tab : List (Nat × Sum) := [(194, S_laws_eqBasis)]
theorem S_laws_eqDecoder_ok : FnOK Try.prog 176 S_laws_eqDecoder := by
  refine at_enter 26 (fun x => ⟨[(0, aG [cI x.1.1, cI x.1.2.1, cI x.1.2.2.1, cI x.1.2.2.2.1, .ro s34 x.1.2.2.2.2]), (1, aG [cI x.2.1.1, cI x.2.1.2.1, cI x.2.1.2.2.1, cI x.2.1.2.2.2.1, .ro s34 x.2.1.2.2.2.2])], []⟩) Try.func176 rfl (by kernel_rfl) (fun x => rfl) ?_
  rintro w0 Z0 ⟨x0, x1, u⟩ a w
  revert x0 x1
  intro (x0 : T189) (x1 : T189) hpre hlens h
  replace h : At w0 Z0 [] 26 ⟨[(0, aG [cI x0.1, cI x0.2.1, cI x0.2.2.1, cI x0.2.2.2.1, .ro s34 x0.2.2.2.2]), (1, aG [cI x1.1, cI x1.2.1, cI x1.2.2.1, cI x1.2.2.2.1, .ro s34 x1.2.2.2.2])], []⟩ a w := h
  have hl1 : List.length x0.2.2.2.2 ≤ 9223372036854775807 := hlens.1.2.2.2.2.1
  have hl2 : List.length x1.2.2.2.2 ≤ 9223372036854775807 := hlens.2.1.2.2.2.2.1
  have hT : TabOK Try.prog S_laws_eqDecoder_tab := (.cons S_laws_eqBasis_ok .nil)
  refine wp_seq ?_
  refine at_regq (T := S_laws_eqDecoder_tab) [{ ids := [1] }, { ids := [2] }] { ts := [2, 3, 4], os := [1, 2] } [] gamOK hT h (by kernel_rfl) trivial ?_
  intro a w h
  refine then_normal ?_
  refine wp_seq ?_
  refine wp_seq ?_
  refine at_regq (T := S_laws_eqDecoder_tab) [] { ts := [2, 3, 4, 9], os := [1, 2] } [] gamOK hT h (by kernel_rfl) trivial ?_
  intro a w h
  refine then_normal ?_
  refine at_test (!decide (x0.1 = x1.1)) h (by kernel_rfl) (fun h1 => ?_) (fun h1 => ?_)
  · replace h1 : ¬ (x0.1 = x1.1) := by simpa using h1
    refine wp_seq ?_
    refine at_regq (T := S_laws_eqDecoder_tab) [] { ts := [2, 3, 4], os := [1, 2] } [] gamOK hT h (by kernel_rfl) trivial ?_
    intro a w h
    refine then_normal ?_
    refine wp_ret ?_
    refine then_ret ?_
    exact at_return (S := S_laws_eqDecoder) (x := (x0, x1, ())) (false, ()) [] h (by kernel_rfl) trivial (congrArg (fun z => (z, ())) (show (false) = (Sh.eqB s189) x0 x1 from by exact (Sh.eqB_ne (s := s189) (fun e => h1 (congrArg (fun (y : T189) => y.1) e))).symm))
  · replace h1 : x0.1 = x1.1 := by simpa using h1
    refine wp_skip ?_
    refine then_normal ?_
    refine wp_seq ?_
    refine wp_seq ?_
    refine at_regq (T := S_laws_eqDecoder_tab) [] { ts := [2, 3, 4, 14], os := [1, 2] } [] gamOK hT h (by kernel_rfl) trivial ?_
    intro a w h
    refine then_normal ?_
    refine at_test (!decide (x0.2.1 = x1.2.1)) h (by kernel_rfl) (fun h2 => ?_) (fun h2 => ?_)
    · replace h2 : ¬ (x0.2.1 = x1.2.1) := by simpa using h2
      refine wp_seq ?_
      refine at_reg (T := S_laws_eqDecoder_tab) [] { ts := [2, 3, 4], os := [1, 2] } ⟨[(2, aP 1 0), (3, aP 2 0), (4, aB false)], [(1, oX 189 [cI x0.1, cI x0.2.1, cI x0.2.2.1, cI x0.2.2.2.1, .ro s34 x0.2.2.2.2]), (2, oX 189 [cI x1.1, cI x1.2.1, cI x1.2.2.1, cI x1.2.2.2.1, .ro s34 x1.2.2.2.2])]⟩ [] gamOK hT h (by kernel_rfl) trivial ?_
      intro a w h
      refine then_normal ?_
      refine wp_ret ?_
      refine then_ret ?_
      exact at_return (S := S_laws_eqDecoder) (x := (x0, x1, ())) (false, ()) [] h (by kernel_rfl) trivial (congrArg (fun z => (z, ())) (show (false) = (Sh.eqB s189) x0 x1 from by exact (Sh.eqB_ne (s := s189) (fun e => h2 (congrArg (fun (y : T189) => y.2.1) e))).symm))
    · replace h2 : x0.2.1 = x1.2.1 := by simpa using h2
      refine wp_skip ?_
      refine then_normal ?_
      refine wp_seq ?_
      refine wp_seq ?_
      refine at_reg (T := S_laws_eqDecoder_tab) [] { ts := [2, 3, 4, 19], os := [1, 2] } ⟨[(2, aP 1 0), (3, aP 2 0), (4, aB false), (19, aB (!decide (x0.2.2.1 = x1.2.2.1)))], [(1, oX 189 [cI x0.1, cI x0.2.1, cI x0.2.2.1, cI x0.2.2.2.1, .ro s34 x0.2.2.2.2]), (2, oX 189 [cI x1.1, cI x1.2.1, cI x1.2.2.1, cI x1.2.2.2.1, .ro s34 x1.2.2.2.2])]⟩ [] gamOK hT h (by kernel_rfl) trivial ?_
      intro a w h
      refine then_normal ?_
      refine at_test (!decide (x0.2.2.1 = x1.2.2.1)) h (by kernel_rfl) (fun h3 => ?_) (fun h3 => ?_)
      · replace h3 : ¬ (x0.2.2.1 = x1.2.2.1) := by simpa using h3
        refine wp_seq ?_
        refine at_regq (T := S_laws_eqDecoder_tab) [] { ts := [2, 3, 4], os := [1, 2] } [] gamOK hT h (by kernel_rfl) trivial ?_
        intro a w h
        refine then_normal ?_
        refine wp_ret ?_
        refine then_ret ?_
        exact at_return (S := S_laws_eqDecoder) (x := (x0, x1, ())) (false, ()) [] h (by kernel_rfl) trivial (congrArg (fun z => (z, ())) (show (false) = (Sh.eqB s189) x0 x1 from by exact (Sh.eqB_ne (s := s189) (fun e => h3 (congrArg (fun (y : T189) => y.2.2.1) e))).symm))
      · replace h3 : x0.2.2.1 = x1.2.2.1 := by simpa using h3
        refine wp_skip ?_
        refine then_normal ?_
        refine wp_seq ?_
        refine wp_seq ?_
        refine at_regq (T := S_laws_eqDecoder_tab) [] { ts := [4, 25], os := [] } [True] gamOK hT h (by kernel_rfl) ⟨trivial, trivial⟩ ?_
        intro a w h
        refine then_normal ?_
        refine at_test (!((Sh.eqB s187) x0.2.2.2 x1.2.2.2)) h (by kernel_rfl) (fun h4 => ?_) (fun h4 => ?_)
        · replace h4 : ((Sh.eqB s187) x0.2.2.2 x1.2.2.2) = false := notT h4
          refine wp_seq ?_
          refine at_regq (T := S_laws_eqDecoder_tab) [] { ts := [4], os := [] } [] gamOK hT h (by kernel_rfl) trivial ?_
          intro a w h
          refine then_normal ?_
          refine wp_ret ?_
          refine then_ret ?_
          exact at_return (S := S_laws_eqDecoder) (x := (x0, x1, ())) (false, ()) [] h (by kernel_rfl) trivial (congrArg (fun z => (z, ())) (show (false) = (Sh.eqB s189) x0 x1 from by exact (Sh.eqB_ne (s := s189) (fun e => Sh.of_eqB_ne h4 (congrArg (fun (y : T189) => y.2.2.2) e))).symm))
        · replace h4 : ((Sh.eqB s187) x0.2.2.2 x1.2.2.2) = true := notF h4
          refine wp_skip ?_
          refine then_normal ?_
          refine wp_seq ?_
          refine at_regq (T := S_laws_eqDecoder_tab) [] { ts := [4], os := [] } [] gamOK hT h (by kernel_rfl) trivial ?_
          intro a w h
          refine then_normal ?_
          refine wp_ret ?_
          exact at_return (S := S_laws_eqDecoder) (x := (x0, x1, ())) (true, ()) [] h (by kernel_rfl) trivial (congrArg (fun z => (z, ())) (show (true) = (Sh.eqB s189) x0 x1 from by exact ((Sh.eqB_iff s189).2 (Prod.ext h1 (Prod.ext h2 (Prod.ext h3 (Sh.of_eqB h4))))).symm))

def S_laws_eqDecoderS : Sum := { fid := 139, dom := [s100, s100], cod := [(.bool 4)], dp := true, fz := false, pre := fun x => True, g := fun x => (((Sh.eqB s100) x.1 x.2.1), ()) }
def S_laws_eqDecoderS_tab : List (Nat × Sum) := [(176, S_laws_eqDecoder)]
theorem S_laws_eqDecoderS_ok : FnOK Try.prog 139 S_laws_eqDecoderS := by
  refine at_enter 27 (fun x => ⟨[(0, aF s189 x.1), (1, aF s189 x.2.1)], []⟩) Try.func139 rfl (by kernel_rfl) (fun x => rfl) ?_
  rintro w0 Z0 ⟨x0, x1, u⟩ a w
  revert x0 x1
  intro (x0 : (List T189)) (x1 : (List T189)) hpre hlens h
  replace h : At w0 Z0 [] 27 ⟨[(0, aF s189 x0), (1, aF s189 x1)], []⟩ a w := h
  have hl1 : List.length x0 ≤ 9223372036854775807 := hlens.1.1
  have hl2 : List.length x1 ≤ 9223372036854775807 := hlens.2.1.1
  have hT : TabOK Try.prog S_laws_eqDecoderS_tab := (.cons S_laws_eqDecoder_ok .nil)
  refine wp_seq ?_
  refine at_regq (T := S_laws_eqDecoderS_tab) [] { ts := [0, 1, 4], os := [] } [] gamOK hT h (by kernel_rfl) trivial ?_
  intro a w h
  refine then_normal ?_
  refine wp_seq ?_
  refine wp_seq ?_
  refine at_regq (T := S_laws_eqDecoderS_tab) [] { ts := [0, 1, 4, 10], os := [] } [] gamOK hT h (by kernel_rfl) trivial ?_
  intro a w h
  refine then_normal ?_
  refine at_test (!decide (((List.length x0 : Nat) : Int) = ((List.length x1 : Nat) : Int))) h (by kernel_rfl) (fun h1 => ?_) (fun h1 => ?_)
  · replace h1 : ¬ (((List.length x0 : Nat) : Int) = ((List.length x1 : Nat) : Int)) := by simpa using h1
    refine wp_seq ?_
    refine at_regq (T := S_laws_eqDecoderS_tab) [] { ts := [0, 1, 4], os := [] } [] gamOK hT h (by kernel_rfl) trivial ?_
    intro a w h
    refine then_normal ?_
    refine wp_ret ?_
    refine then_ret ?_
    exact at_return (S := S_laws_eqDecoderS) (x := (x0, x1, ())) (false, ()) [] h (by kernel_rfl) trivial (congrArg (fun z => (z, ())) (show (false) = (Sh.eqB s100) x0 x1 from by exact (Sh.eqB_ne (fun e => h1 (by rw [e]))).symm))
  · replace h1 : ((List.length x0 : Nat) : Int) = ((List.length x1 : Nat) : Int) := by simpa using h1
    refine wp_skip ?_
    refine then_normal ?_
    refine wp_seq ?_
    refine wp_seq ?_
    refine at_regq (T := S_laws_eqDecoderS_tab) [] { ts := [0, 1, 4, 5], os := [] } [] gamOK hT h (by kernel_rfl) trivial ?_
    intro a w h
    refine then_normal ?_
    refine wp_block ?_
    replace h := at_out (σ' := ⟨[(0, aF s189 x0), (1, aF s189 x1), (4, aB false), (5, aI 0)], []⟩) { ts := [0, 1, 4, 5], os := [] } h (by kernel_rfl)
    refine at_loop (fun i : Nat => (⟨[(0, aF s189 x0), (1, aF s189 x1), (4, aB false), (5, aI ((i : Nat) : Int))], []⟩ : St)) (fun i => (i ≤ List.length x0 ∧ x0.take i = x1.take i)) (fun i => List.length x0 - i) (0) h (st_congr1 (fun (d0 : Int) => (⟨[(0, aF s189 x0), (1, aF s189 x1), (4, aB false), (5, aI d0)], []⟩ : St)) (show (0 : Int) = (((0) : Nat) : Int) from by first | rfl | (rfl))) (by exact ⟨Nat.zero_le _, rfl⟩) ?_
    intro i a w hok0 h
    refine wp_seq ?_
    refine wp_seq ?_
    refine at_reg (T := S_laws_eqDecoderS_tab) [] { ts := [0, 1, 4, 5, 14], os := [] } ⟨[(0, aF s189 x0), (1, aF s189 x1), (4, aB false), (5, aI ((i : Nat) : Int)), (14, aB (decide (((i : Nat) : Int) < ((List.length x0 : Nat) : Int))))], []⟩ [] gamOK hT h (by kernel_rfl) trivial ?_
    intro a w h
    refine then_normal ?_
    refine at_test (decide (((i : Nat) : Int) < ((List.length x0 : Nat) : Int))) h (by kernel_rfl) (fun h2 => ?_) (fun h2 => ?_)
    · replace h2 : ((i : Nat) : Int) < ((List.length x0 : Nat) : Int) := of_decide_eq_true h2
      refine wp_skip ?_
      refine then_normal ?_
      refine wp_seq ?_
      refine wp_block ?_
      refine wp_seq ?_
      refine at_anyq (T := S_laws_eqDecoderS_tab) [{}, {}, {}, {}, {}, {}, {}, {}, {}, {}] { ts := [0, 1, 4, 5, 26], os := [] } [(0 : Int) ≤ ((i : Nat) : Int) ∧ ((i : Nat) : Int) < ((List.length x0 : Nat) : Int), (0 : Int) ≤ ((i : Nat) : Int) ∧ ((i : Nat) : Int) < ((List.length x1 : Nat) : Int), True] gamOK hT mixed h (by kernel_rfl) ⟨(by refine ⟨?_, ?_⟩ <;> (first | omega | (simp only [List.length_append, List.length_cons, List.length_nil, List.length_set, List.length_take, List.length_drop, List.length_replicate, List.length_map, Nat.min_def]; omega) | (simp; done) | (simp; omega) | done)), (by refine ⟨?_, ?_⟩ <;> (first | omega | (simp only [List.length_append, List.length_cons, List.length_nil, List.length_set, List.length_take, List.length_drop, List.length_replicate, List.length_map, Nat.min_def]; omega) | (simp; done) | (simp; omega) | done)), trivial, trivial⟩ ?_
      intro a w h
      refine then_normal ?_
      refine at_test (!((Sh.eqB s189) (x0.getD i (0, (0, (0, (0, []))))) (x1.getD i (0, (0, (0, (0, []))))))) h (by kernel_rfl) (fun h3 => ?_) (fun h3 => ?_)
      · replace h3 : ((Sh.eqB s189) (x0.getD i (0, (0, (0, (0, []))))) (x1.getD i (0, (0, (0, (0, [])))))) = false := notT h3
        refine wp_seq ?_
        refine at_regq (T := S_laws_eqDecoderS_tab) [] { ts := [0, 1, 4, 5], os := [] } [] gamOK hT h (by kernel_rfl) trivial ?_
        intro a w h
        refine then_normal ?_
        refine wp_ret ?_
        refine in_ret ?_
        refine then_ret ?_
        refine then_ret ?_
        refine in_ret ?_
        refine then_ret ?_
        exact at_return (S := S_laws_eqDecoderS) (x := (x0, x1, ())) (false, ()) [] h (by kernel_rfl) trivial (congrArg (fun z => (z, ())) (show (false) = (Sh.eqB s100) x0 x1 from by exact (Sh.eqB_ne (s := s100) (fun e => Sh.of_eqB_ne h3 (by rw [e]))).symm))
      · replace h3 : ((Sh.eqB s189) (x0.getD i (0, (0, (0, (0, []))))) (x1.getD i (0, (0, (0, (0, [])))))) = true := notF h3
        refine wp_skip ?_
        refine in_normal ?_
        refine then_normal ?_
        refine at_regq (T := S_laws_eqDecoderS_tab) [{}, { nw := true }] { ts := [0, 1, 4, 5], os := [] } [I64 (((i : Nat) : Int) + 1)] gamOK hT h (by kernel_rfl) ⟨⟨by first | omega | (simp only [List.length_append, List.length_cons, List.length_nil, List.length_set, List.length_take, List.length_drop, List.length_replicate, List.length_map, Nat.min_def]; omega) | (simp; done) | (simp; omega) | done, by first | omega | (simp only [List.length_append, List.length_cons, List.length_nil, List.length_set, List.length_take, List.length_drop, List.length_replicate, List.length_map, Nat.min_def]; omega) | (simp; done) | (simp; omega) | done⟩, trivial⟩ ?_
        intro a w h
        replace h := at_out (σ' := ⟨[(0, aF s189 x0), (1, aF s189 x1), (4, aB false), (5, aI (((i : Nat) : Int) + 1))], []⟩) { ts := [0, 1, 4, 5], os := [] } h (by kernel_rfl)
        exact ⟨i + 1, at_eq h (st_congr1 (fun (d0 : Int) => (⟨[(0, aF s189 x0), (1, aF s189 x1), (4, aB false), (5, aI d0)], []⟩ : St)) (show (((i : Nat) : Int) + 1 : Int) = (((i + 1) : Nat) : Int) from by first | rfl | (omega))), (by exact ⟨by omega, eqTo_step (z := (0, (0, (0, (0, []))))) (by omega) (by omega) hok0.2 (Sh.of_eqB h3)⟩), (by omega)⟩
    · replace h2 : ¬ (((i : Nat) : Int) < ((List.length x0 : Nat) : Int)) := of_decide_eq_false h2
      refine wp_exit ?_
      refine then_exit ?_
      refine then_exit ?_
      refine in_hit ?_
      refine then_normal ?_
      refine wp_seq ?_
      refine at_regq (T := S_laws_eqDecoderS_tab) [] { ts := [4], os := [] } [] gamOK hT h (by kernel_rfl) trivial ?_
      intro a w h
      refine then_normal ?_
      refine wp_ret ?_
      exact at_return (S := S_laws_eqDecoderS) (x := (x0, x1, ())) (true, ()) [] h (by kernel_rfl) trivial (congrArg (fun z => (z, ())) (show (true) = (Sh.eqB s100) x0 x1 from by (have e := hok0.2; rw [take_all (by omega), take_all (by omega)] at e; exact ((Sh.eqB_iff s100).2 e).symm)))

def S_laws_eqGeneration : Sum := { fid := 177, dom := [s192, s192], cod := [(.bool 4)], dp := true, fz := false, pre := fun x => True, g := fun x => (((Sh.eqB s192) x.1 x.2.1), ()) }
def S_laws_eqGeneration_tab : List (Nat × Sum) := [(195, S_laws_eqIntSS)]
theorem S_laws_eqGeneration_ok : FnOK Try.prog 177 S_laws_eqGeneration := by
  refine at_enter 16 (fun x => ⟨[(0, aG [cI x.1.1, .ro s34 x.1.2]), (1, aG [cI x.2.1.1, .ro s34 x.2.1.2])], []⟩) Try.func177 rfl (by kernel_rfl) (fun x => rfl) ?_
  rintro w0 Z0 ⟨x0, x1, u⟩ a w
  revert x0 x1
  intro (x0 : T192) (x1 : T192) hpre hlens h
  replace h : At w0 Z0 [] 16 ⟨[(0, aG [cI x0.1, .ro s34 x0.2]), (1, aG [cI x1.1, .ro s34 x1.2])], []⟩ a w := h
  have hl1 : List.length x0.2 ≤ 9223372036854775807 := hlens.1.2.1
  have hl2 : List.length x1.2 ≤ 9223372036854775807 := hlens.2.1.2.1
  have hT : TabOK Try.prog S_laws_eqGeneration_tab := (.cons S_laws_eqIntSS_ok .nil)
  refine wp_seq ?_
  refine at_regq (T := S_laws_eqGeneration_tab) [{ ids := [1] }, { ids := [2] }] { ts := [2, 3, 4], os := [1, 2] } [] gamOK hT h (by kernel_rfl) trivial ?_
  intro a w h
  refine then_normal ?_
  refine wp_seq ?_
  refine wp_seq ?_
  refine at_regq (T := S_laws_eqGeneration_tab) [] { ts := [2, 3, 4, 9], os := [1, 2] } [] gamOK hT h (by kernel_rfl) trivial ?_
  intro a w h
  refine then_normal ?_
  refine at_test (!decide (x0.1 = x1.1)) h (by kernel_rfl) (fun h1 => ?_) (fun h1 => ?_)
  · replace h1 : ¬ (x0.1 = x1.1) := by simpa using h1
    refine wp_seq ?_
    refine at_regq (T := S_laws_eqGeneration_tab) [] { ts := [2, 3, 4], os := [1, 2] } [] gamOK hT h (by kernel_rfl) trivial ?_
    intro a w h
    refine then_normal ?_
    refine wp_ret ?_
    refine then_ret ?_
    exact at_return (S := S_laws_eqGeneration) (x := (x0, x1, ())) (false, ()) [] h (by kernel_rfl) trivial (congrArg (fun z => (z, ())) (show (false) = (Sh.eqB s192) x0 x1 from by exact (Sh.eqB_ne (s := s192) (fun e => h1 (congrArg (fun (y : T192) => y.1) e))).symm))
  · replace h1 : x0.1 = x1.1 := by simpa using h1
    refine wp_skip ?_
    refine then_normal ?_
    refine wp_seq ?_
    refine wp_seq ?_
    refine at_regq (T := S_laws_eqGeneration_tab) [] { ts := [4, 15], os := [] } [True] gamOK hT h (by kernel_rfl) ⟨trivial, trivial⟩ ?_
    intro a w h
    refine then_normal ?_
    refine at_test (!((Sh.eqB s185) x0.2 x1.2)) h (by kernel_rfl) (fun h2 => ?_) (fun h2 => ?_)
    · replace h2 : ((Sh.eqB s185) x0.2 x1.2) = false := notT h2
      refine wp_seq ?_
      refine at_reg (T := S_laws_eqGeneration_tab) [] { ts := [4], os := [] } ⟨[(4, aB false)], []⟩ [] gamOK hT h (by kernel_rfl) trivial ?_
      intro a w h
      refine then_normal ?_
      refine wp_ret ?_
      refine then_ret ?_
      exact at_return (S := S_laws_eqGeneration) (x := (x0, x1, ())) (false, ()) [] h (by kernel_rfl) trivial (congrArg (fun z => (z, ())) (show (false) = (Sh.eqB s192) x0 x1 from by exact (Sh.eqB_ne (s := s192) (fun e => Sh.of_eqB_ne h2 (congrArg (fun (y : T192) => y.2) e))).symm))
    · replace h2 : ((Sh.eqB s185) x0.2 x1.2) = true := notF h2
      refine wp_skip ?_
      refine then_normal ?_
      refine wp_seq ?_
      refine at_reg (T := S_laws_eqGeneration_tab) [] { ts := [4], os := [] } ⟨[(4, aB true)], []⟩ [] gamOK hT h (by kernel_rfl) trivial ?_
      intro a w h
      refine then_normal ?_
      refine wp_ret ?_
      exact at_return (S := S_laws_eqGeneration) (x := (x0, x1, ())) (true, ()) [] h (by kernel_rfl) trivial (congrArg (fun z => (z, ())) (show (true) = (Sh.eqB s192) x0 x1 from by exact ((Sh.eqB_iff s192).2 (Prod.ext h1 (Sh.of_eqB h2))).symm))

def S_laws_eqGenerationS : Sum := { fid := 140, dom := [s101, s101], cod := [(.bool 4)], dp := true, fz := false, pre := fun x => True, g := fun x => (((Sh.eqB s101) x.1 x.2.1), ()) }
def S_laws_eqGenerationS_tab : List (Nat × Sum) := [(177, S_laws_eqGeneration)]
theorem S_laws_eqGenerationS_ok : FnOK Try.prog 140 S_laws_eqGenerationS := by
  refine at_enter 27 (fun x => ⟨[(0, aF s192 x.1), (1, aF s192 x.2.1)], []⟩) Try.func140 rfl (by kernel_rfl) (fun x => rfl) ?_
  rintro w0 Z0 ⟨x0, x1, u⟩ a w
  revert x0 x1
  intro (x0 : (List T192)) (x1 : (List T192)) hpre hlens h
  replace h : At w0 Z0 [] 27 ⟨[(0, aF s192 x0), (1, aF s192 x1)], []⟩ a w := h
  have hl1 : List.length x0 ≤ 9223372036854775807 := hlens.1.1
  have hl2 : List.length x1 ≤ 9223372036854775807 := hlens.2.1.1
  have hT : TabOK Try.prog S_laws_eqGenerationS_tab := (.cons S_laws_eqGeneration_ok .nil)
  refine wp_seq ?_
  refine at_regq (T := S_laws_eqGenerationS_tab) [] { ts := [0, 1, 4], os := [] } [] gamOK hT h (by kernel_rfl) trivial ?_
  intro a w h
  refine then_normal ?_
  refine wp_seq ?_
  refine wp_seq ?_
  refine at_regq (T := S_laws_eqGenerationS_tab) [] { ts := [0, 1, 4, 10], os := [] } [] gamOK hT h (by kernel_rfl) trivial ?_
  intro a w h
  refine then_normal ?_
  refine at_test (!decide (((List.length x0 : Nat) : Int) = ((List.length x1 : Nat) : Int))) h (by kernel_rfl) (fun h1 => ?_) (fun h1 => ?_)
  · replace h1 : ¬ (((List.length x0 : Nat) : Int) = ((List.length x1 : Nat) : Int)) := by simpa using h1
    refine wp_seq ?_
    refine at_regq (T := S_laws_eqGenerationS_tab) [] { ts := [0, 1, 4], os := [] } [] gamOK hT h (by kernel_rfl) trivial ?_
    intro a w h
    refine then_normal ?_
    refine wp_ret ?_
    refine then_ret ?_
    exact at_return (S := S_laws_eqGenerationS) (x := (x0, x1, ())) (false, ()) [] h (by kernel_rfl) trivial (congrArg (fun z => (z, ())) (show (false) = (Sh.eqB s101) x0 x1 from by exact (Sh.eqB_ne (fun e => h1 (by rw [e]))).symm))
  · replace h1 : ((List.length x0 : Nat) : Int) = ((List.length x1 : Nat) : Int) := by simpa using h1
    refine wp_skip ?_
    refine then_normal ?_
    refine wp_seq ?_
    refine wp_seq ?_
    refine at_regq (T := S_laws_eqGenerationS_tab) [] { ts := [0, 1, 4, 5], os := [] } [] gamOK hT h (by kernel_rfl) trivial ?_
    intro a w h
    refine then_normal ?_
    refine wp_block ?_
    replace h := at_out (σ' := ⟨[(0, aF s192 x0), (1, aF s192 x1), (4, aB false), (5, aI 0)], []⟩) { ts := [0, 1, 4, 5], os := [] } h (by kernel_rfl)
    refine at_loop (fun i : Nat => (⟨[(0, aF s192 x0), (1, aF s192 x1), (4, aB false), (5, aI ((i : Nat) : Int))], []⟩ : St)) (fun i => (i ≤ List.length x0 ∧ x0.take i = x1.take i)) (fun i => List.length x0 - i) (0) h (st_congr1 (fun (d0 : Int) => (⟨[(0, aF s192 x0), (1, aF s192 x1), (4, aB false), (5, aI d0)], []⟩ : St)) (show (0 : Int) = (((0) : Nat) : Int) from by first | rfl | (rfl))) (by exact ⟨Nat.zero_le _, rfl⟩) ?_
    intro i a w hok0 h
    refine wp_seq ?_
    refine wp_seq ?_
    refine at_reg (T := S_laws_eqGenerationS_tab) [] { ts := [0, 1, 4, 5, 14], os := [] } ⟨[(0, aF s192 x0), (1, aF s192 x1), (4, aB false), (5, aI ((i : Nat) : Int)), (14, aB (decide (((i : Nat) : Int) < ((List.length x0 : Nat) : Int))))], []⟩ [] gamOK hT h (by kernel_rfl) trivial ?_
    intro a w h
    refine then_normal ?_
    refine at_test (decide (((i : Nat) : Int) < ((List.length x0 : Nat) : Int))) h (by kernel_rfl) (fun h2 => ?_) (fun h2 => ?_)
    · replace h2 : ((i : Nat) : Int) < ((List.length x0 : Nat) : Int) := of_decide_eq_true h2
      refine wp_skip ?_
      refine then_normal ?_
      refine wp_seq ?_
      refine wp_block ?_
      refine wp_seq ?_
      refine at_anyq (T := S_laws_eqGenerationS_tab) [{}, {}, {}, {}, {}, {}, {}, {}, {}, {}] { ts := [0, 1, 4, 5, 26], os := [] } [(0 : Int) ≤ ((i : Nat) : Int) ∧ ((i : Nat) : Int) < ((List.length x0 : Nat) : Int), (0 : Int) ≤ ((i : Nat) : Int) ∧ ((i : Nat) : Int) < ((List.length x1 : Nat) : Int), True] gamOK hT mixed h (by kernel_rfl) ⟨(by refine ⟨?_, ?_⟩ <;> (first | omega | (simp only [List.length_append, List.length_cons, List.length_nil, List.length_set, List.length_take, List.length_drop, List.length_replicate, List.length_map, Nat.min_def]; omega) | (simp; done) | (simp; omega) | done)), (by refine ⟨?_, ?_⟩ <;> (first | omega | (simp only [List.length_append, List.length_cons, List.length_nil, List.length_set, List.length_take, List.length_drop, List.length_replicate, List.length_map, Nat.min_def]; omega) | (simp; done) | (simp; omega) | done)), trivial, trivial⟩ ?_
      intro a w h
      refine then_normal ?_
      refine at_test (!((Sh.eqB s192) (x0.getD i (0, [])) (x1.getD i (0, [])))) h (by kernel_rfl) (fun h3 => ?_) (fun h3 => ?_)
      · replace h3 : ((Sh.eqB s192) (x0.getD i (0, [])) (x1.getD i (0, []))) = false := notT h3
        refine wp_seq ?_
        refine at_regq (T := S_laws_eqGenerationS_tab) [] { ts := [0, 1, 4, 5], os := [] } [] gamOK hT h (by kernel_rfl) trivial ?_
        intro a w h
        refine then_normal ?_
        refine wp_ret ?_
        refine in_ret ?_
        refine then_ret ?_
        refine then_ret ?_
        refine in_ret ?_
        refine then_ret ?_
        exact at_return (S := S_laws_eqGenerationS) (x := (x0, x1, ())) (false, ()) [] h (by kernel_rfl) trivial (congrArg (fun z => (z, ())) (show (false) = (Sh.eqB s101) x0 x1 from by exact (Sh.eqB_ne (s := s101) (fun e => Sh.of_eqB_ne h3 (by rw [e]))).symm))
      · replace h3 : ((Sh.eqB s192) (x0.getD i (0, [])) (x1.getD i (0, []))) = true := notF h3
        refine wp_skip ?_
        refine in_normal ?_
        refine then_normal ?_
        refine at_regq (T := S_laws_eqGenerationS_tab) [{}, { nw := true }] { ts := [0, 1, 4, 5], os := [] } [I64 (((i : Nat) : Int) + 1)] gamOK hT h (by kernel_rfl) ⟨⟨by first | omega | (simp only [List.length_append, List.length_cons, List.length_nil, List.length_set, List.length_take, List.length_drop, List.length_replicate, List.length_map, Nat.min_def]; omega) | (simp; done) | (simp; omega) | done, by first | omega | (simp only [List.length_append, List.length_cons, List.length_nil, List.length_set, List.length_take, List.length_drop, List.length_replicate, List.length_map, Nat.min_def]; omega) | (simp; done) | (simp; omega) | done⟩, trivial⟩ ?_
        intro a w h
        replace h := at_out (σ' := ⟨[(0, aF s192 x0), (1, aF s192 x1), (4, aB false), (5, aI (((i : Nat) : Int) + 1))], []⟩) { ts := [0, 1, 4, 5], os := [] } h (by kernel_rfl)
        exact ⟨i + 1, at_eq h (st_congr1 (fun (d0 : Int) => (⟨[(0, aF s192 x0), (1, aF s192 x1), (4, aB false), (5, aI d0)], []⟩ : St)) (show (((i : Nat) : Int) + 1 : Int) = (((i + 1) : Nat) : Int) from by first | rfl | (omega))), (by exact ⟨by omega, eqTo_step (z := (0, [])) (by omega) (by omega) hok0.2 (Sh.of_eqB h3)⟩), (by omega)⟩
    · replace h2 : ¬ (((i : Nat) : Int) < ((List.length x0 : Nat) : Int)) := of_decide_eq_false h2
      refine wp_exit ?_
      refine then_exit ?_
      refine then_exit ?_
      refine in_hit ?_
      refine then_normal ?_
      refine wp_seq ?_
      refine at_regq (T := S_laws_eqGenerationS_tab) [] { ts := [4], os := [] } [] gamOK hT h (by kernel_rfl) trivial ?_
      intro a w h
      refine then_normal ?_
      refine wp_ret ?_
      exact at_return (S := S_laws_eqGenerationS) (x := (x0, x1, ())) (true, ()) [] h (by kernel_rfl) trivial (congrArg (fun z => (z, ())) (show (true) = (Sh.eqB s101) x0 x1 from by (have e := hok0.2; rw [take_all (by omega), take_all (by omega)] at e; exact ((Sh.eqB_iff s101).2 e).symm)))

def S_laws_eqSink : Sum := { fid := 71, dom := [s103, s103], cod := [(.bool 4)], dp := true, fz := false, pre := fun x => True, g := fun x => (((Sh.eqB s103) x.1 x.2.1), ()) }
def S_laws_eqSink_tab : List (Nat × Sum) := [(35, S_laws_eqIntS), (139, S_laws_eqDecoderS), (140, S_laws_eqGenerationS)]
theorem S_laws_eqSink_ok : FnOK Try.prog 71 S_laws_eqSink := by
  refine at_enter 38 (fun x => ⟨[(0, aG [cI x.1.1, cI x.1.2.1, .ro (.int 3) x.1.2.2.1, .ro s189 x.1.2.2.2.1, .ro s192 x.1.2.2.2.2.1, cI x.1.2.2.2.2.2]), (1, aG [cI x.2.1.1, cI x.2.1.2.1, .ro (.int 3) x.2.1.2.2.1, .ro s189 x.2.1.2.2.2.1, .ro s192 x.2.1.2.2.2.2.1, cI x.2.1.2.2.2.2.2])], []⟩) Try.func71 rfl (by kernel_rfl) (fun x => rfl) ?_
  rintro w0 Z0 ⟨x0, x1, u⟩ a w
  revert x0 x1
  intro (x0 : T103) (x1 : T103) hpre hlens h
  replace h : At w0 Z0 [] 38 ⟨[(0, aG [cI x0.1, cI x0.2.1, .ro (.int 3) x0.2.2.1, .ro s189 x0.2.2.2.1, .ro s192 x0.2.2.2.2.1, cI x0.2.2.2.2.2]), (1, aG [cI x1.1, cI x1.2.1, .ro (.int 3) x1.2.2.1, .ro s189 x1.2.2.2.1, .ro s192 x1.2.2.2.2.1, cI x1.2.2.2.2.2])], []⟩ a w := h
  have hl1 : List.length x0.2.2.1 ≤ 9223372036854775807 := hlens.1.2.2.1.1
  have hl2 : List.length x0.2.2.2.1 ≤ 9223372036854775807 := hlens.1.2.2.2.1.1
  have hl3 : List.length x0.2.2.2.2.1 ≤ 9223372036854775807 := hlens.1.2.2.2.2.1.1
  have hl4 : List.length x1.2.2.1 ≤ 9223372036854775807 := hlens.2.1.2.2.1.1
  have hl5 : List.length x1.2.2.2.1 ≤ 9223372036854775807 := hlens.2.1.2.2.2.1.1
  have hl6 : List.length x1.2.2.2.2.1 ≤ 9223372036854775807 := hlens.2.1.2.2.2.2.1.1
  have hT : TabOK Try.prog S_laws_eqSink_tab := (.cons S_laws_eqIntS_ok (.cons S_laws_eqDecoderS_ok (.cons S_laws_eqGenerationS_ok .nil)))
  refine wp_seq ?_
  refine at_regq (T := S_laws_eqSink_tab) [{ ids := [1] }, { ids := [2] }] { ts := [2, 3, 4], os := [1, 2] } [] gamOK hT h (by kernel_rfl) trivial ?_
  intro a w h
  refine then_normal ?_
  refine wp_seq ?_
  refine wp_seq ?_
  refine at_regq (T := S_laws_eqSink_tab) [] { ts := [2, 3, 4, 9], os := [1, 2] } [] gamOK hT h (by kernel_rfl) trivial ?_
  intro a w h
  refine then_normal ?_
  refine at_test (!decide (x0.1 = x1.1)) h (by kernel_rfl) (fun h1 => ?_) (fun h1 => ?_)
  · replace h1 : ¬ (x0.1 = x1.1) := by simpa using h1
    refine wp_seq ?_
    refine at_regq (T := S_laws_eqSink_tab) [] { ts := [2, 3, 4], os := [1, 2] } [] gamOK hT h (by kernel_rfl) trivial ?_
    intro a w h
    refine then_normal ?_
    refine wp_ret ?_
    refine then_ret ?_
    exact at_return (S := S_laws_eqSink) (x := (x0, x1, ())) (false, ()) [] h (by kernel_rfl) trivial (congrArg (fun z => (z, ())) (show (false) = (Sh.eqB s103) x0 x1 from by exact (Sh.eqB_ne (s := s103) (fun e => h1 (congrArg (fun (y : T103) => y.1) e))).symm))
  · replace h1 : x0.1 = x1.1 := by simpa using h1
    refine wp_skip ?_
    refine then_normal ?_
    refine wp_seq ?_
    refine wp_seq ?_
    refine at_regq (T := S_laws_eqSink_tab) [] { ts := [2, 3, 4, 14], os := [1, 2] } [] gamOK hT h (by kernel_rfl) trivial ?_
    intro a w h
    refine then_normal ?_
    refine at_test (!decide (x0.2.1 = x1.2.1)) h (by kernel_rfl) (fun h2 => ?_) (fun h2 => ?_)
    · replace h2 : ¬ (x0.2.1 = x1.2.1) := by simpa using h2
      refine wp_seq ?_
      refine at_reg (T := S_laws_eqSink_tab) [] { ts := [2, 3, 4], os := [1, 2] } ⟨[(2, aP 1 0), (3, aP 2 0), (4, aB false)], [(1, oX 103 [cI x0.1, cI x0.2.1, .ro (.int 3) x0.2.2.1, .ro s189 x0.2.2.2.1, .ro s192 x0.2.2.2.2.1, cI x0.2.2.2.2.2]), (2, oX 103 [cI x1.1, cI x1.2.1, .ro (.int 3) x1.2.2.1, .ro s189 x1.2.2.2.1, .ro s192 x1.2.2.2.2.1, cI x1.2.2.2.2.2])]⟩ [] gamOK hT h (by kernel_rfl) trivial ?_
      intro a w h
      refine then_normal ?_
      refine wp_ret ?_
      refine then_ret ?_
      exact at_return (S := S_laws_eqSink) (x := (x0, x1, ())) (false, ()) [] h (by kernel_rfl) trivial (congrArg (fun z => (z, ())) (show (false) = (Sh.eqB s103) x0 x1 from by exact (Sh.eqB_ne (s := s103) (fun e => h2 (congrArg (fun (y : T103) => y.2.1) e))).symm))
    · replace h2 : x0.2.1 = x1.2.1 := by simpa using h2
      refine wp_skip ?_
      refine then_normal ?_
      refine wp_seq ?_
      refine wp_seq ?_
      refine at_reg (T := S_laws_eqSink_tab) [] { ts := [2, 3, 4, 20], os := [1, 2] } ⟨[(2, aP 1 0), (3, aP 2 0), (4, aB false), (20, aB (!((Sh.eqB s34) x0.2.2.1 x1.2.2.1)))], [(1, oX 103 [cI x0.1, cI x0.2.1, .ro (.int 3) x0.2.2.1, .ro s189 x0.2.2.2.1, .ro s192 x0.2.2.2.2.1, cI x0.2.2.2.2.2]), (2, oX 103 [cI x1.1, cI x1.2.1, .ro (.int 3) x1.2.2.1, .ro s189 x1.2.2.2.1, .ro s192 x1.2.2.2.2.1, cI x1.2.2.2.2.2])]⟩ [True] gamOK hT h (by kernel_rfl) ⟨trivial, trivial⟩ ?_
      intro a w h
      refine then_normal ?_
      refine at_test (!((Sh.eqB s34) x0.2.2.1 x1.2.2.1)) h (by kernel_rfl) (fun h3 => ?_) (fun h3 => ?_)
      · replace h3 : ((Sh.eqB s34) x0.2.2.1 x1.2.2.1) = false := notT h3
        refine wp_seq ?_
        refine at_regq (T := S_laws_eqSink_tab) [] { ts := [2, 3, 4], os := [1, 2] } [] gamOK hT h (by kernel_rfl) trivial ?_
        intro a w h
        refine then_normal ?_
        refine wp_ret ?_
        refine then_ret ?_
        exact at_return (S := S_laws_eqSink) (x := (x0, x1, ())) (false, ()) [] h (by kernel_rfl) trivial (congrArg (fun z => (z, ())) (show (false) = (Sh.eqB s103) x0 x1 from by exact (Sh.eqB_ne (s := s103) (fun e => Sh.of_eqB_ne h3 (congrArg (fun (y : T103) => y.2.2.1) e))).symm))
      · replace h3 : ((Sh.eqB s34) x0.2.2.1 x1.2.2.1) = true := notF h3
        refine wp_skip ?_
        refine then_normal ?_
        refine wp_seq ?_
        refine wp_seq ?_
        refine at_regq (T := S_laws_eqSink_tab) [] { ts := [2, 3, 4, 26], os := [1, 2] } [True] gamOK hT h (by kernel_rfl) ⟨trivial, trivial⟩ ?_
        intro a w h
        refine then_normal ?_
        refine at_test (!((Sh.eqB s100) x0.2.2.2.1 x1.2.2.2.1)) h (by kernel_rfl) (fun h4 => ?_) (fun h4 => ?_)
        · replace h4 : ((Sh.eqB s100) x0.2.2.2.1 x1.2.2.2.1) = false := notT h4
          refine wp_seq ?_
          refine at_regq (T := S_laws_eqSink_tab) [] { ts := [2, 3, 4], os := [1, 2] } [] gamOK hT h (by kernel_rfl) trivial ?_
          intro a w h
          refine then_normal ?_
          refine wp_ret ?_
          refine then_ret ?_
          exact at_return (S := S_laws_eqSink) (x := (x0, x1, ())) (false, ()) [] h (by kernel_rfl) trivial (congrArg (fun z => (z, ())) (show (false) = (Sh.eqB s103) x0 x1 from by exact (Sh.eqB_ne (s := s103) (fun e => Sh.of_eqB_ne h4 (congrArg (fun (y : T103) => y.2.2.2.1) e))).symm))
        · replace h4 : ((Sh.eqB s100) x0.2.2.2.1 x1.2.2.2.1) = true := notF h4
          refine wp_skip ?_
          refine then_normal ?_
          refine wp_seq ?_
          refine wp_seq ?_
          refine at_regq (T := S_laws_eqSink_tab) [] { ts := [2, 3, 4, 32], os := [1, 2] } [True] gamOK hT h (by kernel_rfl) ⟨trivial, trivial⟩ ?_
          intro a w h
          refine then_normal ?_
          refine at_test (!((Sh.eqB s101) x0.2.2.2.2.1 x1.2.2.2.2.1)) h (by kernel_rfl) (fun h5 => ?_) (fun h5 => ?_)
          · replace h5 : ((Sh.eqB s101) x0.2.2.2.2.1 x1.2.2.2.2.1) = false := notT h5
            refine wp_seq ?_
            refine at_regq (T := S_laws_eqSink_tab) [] { ts := [2, 3, 4], os := [1, 2] } [] gamOK hT h (by kernel_rfl) trivial ?_
            intro a w h
            refine then_normal ?_
            refine wp_ret ?_
            refine then_ret ?_
            exact at_return (S := S_laws_eqSink) (x := (x0, x1, ())) (false, ()) [] h (by kernel_rfl) trivial (congrArg (fun z => (z, ())) (show (false) = (Sh.eqB s103) x0 x1 from by exact (Sh.eqB_ne (s := s103) (fun e => Sh.of_eqB_ne h5 (congrArg (fun (y : T103) => y.2.2.2.2.1) e))).symm))
          · replace h5 : ((Sh.eqB s101) x0.2.2.2.2.1 x1.2.2.2.2.1) = true := notF h5
            refine wp_skip ?_
            refine then_normal ?_
            refine wp_seq ?_
            refine wp_seq ?_
            refine at_regq (T := S_laws_eqSink_tab) [] { ts := [4, 37], os := [] } [] gamOK hT h (by kernel_rfl) trivial ?_
            intro a w h
            refine then_normal ?_
            refine at_test (!decide (x0.2.2.2.2.2 = x1.2.2.2.2.2)) h (by kernel_rfl) (fun h6 => ?_) (fun h6 => ?_)
            · replace h6 : ¬ (x0.2.2.2.2.2 = x1.2.2.2.2.2) := by simpa using h6
              refine wp_seq ?_
              refine at_reg (T := S_laws_eqSink_tab) [] { ts := [4], os := [] } ⟨[(4, aB false)], []⟩ [] gamOK hT h (by kernel_rfl) trivial ?_
              intro a w h
              refine then_normal ?_
              refine wp_ret ?_
              refine then_ret ?_
              exact at_return (S := S_laws_eqSink) (x := (x0, x1, ())) (false, ()) [] h (by kernel_rfl) trivial (congrArg (fun z => (z, ())) (show (false) = (Sh.eqB s103) x0 x1 from by exact (Sh.eqB_ne (s := s103) (fun e => h6 (congrArg (fun (y : T103) => y.2.2.2.2.2) e))).symm))
            · replace h6 : x0.2.2.2.2.2 = x1.2.2.2.2.2 := by simpa using h6
              refine wp_skip ?_
              refine then_normal ?_
              refine wp_seq ?_
              refine at_reg (T := S_laws_eqSink_tab) [] { ts := [4], os := [] } ⟨[(4, aB true)], []⟩ [] gamOK hT h (by kernel_rfl) trivial ?_
              intro a w h
              refine then_normal ?_
              refine wp_ret ?_
              exact at_return (S := S_laws_eqSink) (x := (x0, x1, ())) (true, ()) [] h (by kernel_rfl) trivial (congrArg (fun z => (z, ())) (show (true) = (Sh.eqB s103) x0 x1 from by exact ((Sh.eqB_iff s103).2 (Prod.ext h1 (Prod.ext h2 (Prod.ext (Sh.of_eqB h3) (Prod.ext (Sh.of_eqB h4) (Prod.ext (Sh.of_eqB h5) h6)))))).symm))

def S_laws_heldIntS : Sum := { fid := 64, dom := [s34, (.int 3)], cod := [(.int 3)], dp := true, fz := false, pre := fun x => (pMk s34) x.1 x.2.1, g := fun x => (((heldD s34) x.1 x.2.1), ()) }
def S_laws_heldIntS_tab : List (Nat × Sum) := []
theorem S_laws_heldIntS_ok : FnOK Try.prog 64 S_laws_heldIntS := by
  refine at_enter 21 (fun x => ⟨[(0, aF (.int 3) x.1), (1, aI x.2.1)], []⟩) Try.func64 rfl (by kernel_rfl) (fun x => rfl) ?_
  rintro w0 Z0 ⟨x0, x1, u⟩ a w
  revert x0 x1
  intro (x0 : (List Int)) (x1 : Int) hpre hlens h
  replace h : At w0 Z0 [] 21 ⟨[(0, aF (.int 3) x0), (1, aI x1)], []⟩ a w := h
  replace hpre : (pMk s34) x0 x1 := hpre
  have hl1 : List.length x0 ≤ 9223372036854775807 := hlens.1.1
  have hT : TabOK Try.prog S_laws_heldIntS_tab := .nil
  have hp : 0 ≤ x1 ∧ x1 + ((Sh.ct s34 x0 : Nat) : Int) ≤ 4611686018427387904 := hpre
  have hct0 : Sh.ct s34 x0 = ctL (Sh.ct (.int 3)) x0 := rfl
  refine wp_seq ?_
  refine at_regq (T := S_laws_heldIntS_tab) [] { ts := [0, 1, 4], os := [] } [] gamOK hT h (by kernel_rfl) trivial ?_
  intro a w h
  refine then_normal ?_
  refine wp_seq ?_
  refine wp_seq ?_
  refine at_regq (T := S_laws_heldIntS_tab) [] { ts := [0, 1, 4, 5], os := [] } [] gamOK hT h (by kernel_rfl) trivial ?_
  intro a w h
  refine then_normal ?_
  refine wp_block ?_
  replace h := at_out (σ' := ⟨[(0, aF (.int 3) x0), (1, aI x1), (4, aI 0), (5, aI 0)], []⟩) { ts := [0, 1, 4, 5], os := [] } h (by kernel_rfl)
  refine at_loop (fun i : Nat => (⟨[(0, aF (.int 3) x0), (1, aI (x1 + ((ctL (Sh.ct (.int 3)) (List.take i x0) : Nat) : Int))), (4, aI 0), (5, aI ((i : Nat) : Int))], []⟩ : St)) (fun i => (i ≤ List.length x0 ∧ mkL (Sh.mk (.int 3)) (Sh.ct (.int 3)) x1 (x0.take i) = x0.take i)) (fun i => List.length x0 - i) (0) h (st_congr2 (fun (d0 : Int) (d1 : Int) => (⟨[(0, aF (.int 3) x0), (1, aI d0), (4, aI 0), (5, aI d1)], []⟩ : St)) (show (x1 : Int) = (x1 + ((ctL (Sh.ct (.int 3)) (List.take (0) x0) : Nat) : Int)) from by first | rfl | (simp [ctL])) (show (0 : Int) = (((0) : Nat) : Int) from by first | rfl | (simp [ctL]))) (by exact ⟨Nat.zero_le _, by simp [mkL]⟩) ?_
  intro i a w hok0 h
  refine wp_seq ?_
  refine wp_seq ?_
  refine at_regq (T := S_laws_heldIntS_tab) [] { ts := [0, 1, 4, 5, 9], os := [] } [] gamOK hT h (by kernel_rfl) trivial ?_
  intro a w h
  refine then_normal ?_
  refine at_test (decide (((i : Nat) : Int) < ((List.length x0 : Nat) : Int))) h (by kernel_rfl) (fun h1 => ?_) (fun h1 => ?_)
  · replace h1 : ((i : Nat) : Int) < ((List.length x0 : Nat) : Int) := of_decide_eq_true h1
    have hat := ctL_at_le (c := Sh.ct (.int 3)) (xs := x0) (z := 0) (i := i) (by omega)
    have hsu := ctL_take_succ (c := Sh.ct (.int 3)) (xs := x0) (z := 0) (i := i) (by omega)
    have hci : Sh.ct (.int 3) (x0.getD i 0) = 1 := rfl
    refine wp_skip ?_
    refine then_normal ?_
    refine wp_seq ?_
    refine wp_block ?_
    refine wp_seq ?_
    refine wp_seq ?_
    refine at_reg (T := S_laws_heldIntS_tab) [] { ts := [0, 1, 4, 5, 17], os := [] } ⟨[(0, aF (.int 3) x0), (1, aI (x1 + ((ctL (Sh.ct (.int 3)) (List.take i x0) : Nat) : Int))), (4, aI 0), (5, aI ((i : Nat) : Int)), (17, aB (!decide ((x0.getD i 0) = (x1 + ((ctL (Sh.ct (.int 3)) (List.take i x0) : Nat) : Int)))))], []⟩ [(0 : Int) ≤ ((i : Nat) : Int) ∧ ((i : Nat) : Int) < ((List.length x0 : Nat) : Int)] gamOK hT h (by kernel_rfl) ⟨(by refine ⟨?_, ?_⟩ <;> (first | omega | (simp only [List.length_append, List.length_cons, List.length_nil, List.length_set, List.length_take, List.length_drop, List.length_replicate, List.length_map, Nat.min_def]; omega) | (simp; done) | (simp; omega) | done)), trivial⟩ ?_
    intro a w h
    refine then_normal ?_
    refine at_test (!decide ((x0.getD i 0) = (x1 + ((ctL (Sh.ct (.int 3)) (List.take i x0) : Nat) : Int)))) h (by kernel_rfl) (fun h2 => ?_) (fun h2 => ?_)
    · replace h2 : ¬ ((x0.getD i 0) = (x1 + ((ctL (Sh.ct (.int 3)) (List.take i x0) : Nat) : Int))) := by simpa using h2
      refine wp_seq ?_
      refine at_regq (T := S_laws_heldIntS_tab) [] { ts := [0, 1, 4, 5], os := [] } [] gamOK hT h (by kernel_rfl) trivial ?_
      intro a w h
      refine then_normal ?_
      refine wp_ret ?_
      refine then_ret ?_
      refine in_ret ?_
      refine then_ret ?_
      refine then_ret ?_
      refine in_ret ?_
      refine then_ret ?_
      exact at_return (S := S_laws_heldIntS) (x := (x0, x1, ())) ((-1), ()) [] h (by kernel_rfl) trivial (congrArg (fun z => (z, ())) (show ((-1)) = (heldD s34) x0 x1 from by refine (heldD_no (s := s34) (fun e => ?_)).symm; have e2 : (x1 + ((ctL (Sh.ct (.int 3)) (List.take i x0) : Nat) : Int)) = (x0.getD i 0) := congrArg (fun (y : Int) => y) (mkL_get (z := 0) (i := i) e (by omega)); omega))
    · replace h2 : (x0.getD i 0) = (x1 + ((ctL (Sh.ct (.int 3)) (List.take i x0) : Nat) : Int)) := by simpa using h2
      refine wp_skip ?_
      refine then_normal ?_
      refine at_regq (T := S_laws_heldIntS_tab) [{}, { nw := true }] { ts := [0, 1, 4, 5], os := [] } [I64 ((x1 + ((ctL (Sh.ct (.int 3)) (List.take i x0) : Nat) : Int)) + 1)] gamOK hT h (by kernel_rfl) ⟨⟨by first | omega | (simp only [List.length_append, List.length_cons, List.length_nil, List.length_set, List.length_take, List.length_drop, List.length_replicate, List.length_map, Nat.min_def]; omega) | (simp; done) | (simp; omega) | done, by first | omega | (simp only [List.length_append, List.length_cons, List.length_nil, List.length_set, List.length_take, List.length_drop, List.length_replicate, List.length_map, Nat.min_def]; omega) | (simp; done) | (simp; omega) | done⟩, trivial⟩ ?_
      intro a w h
      refine in_normal ?_
      refine then_normal ?_
      refine at_regq (T := S_laws_heldIntS_tab) [{}, { nw := true }] { ts := [0, 1, 4, 5], os := [] } [I64 (((i : Nat) : Int) + 1)] gamOK hT h (by kernel_rfl) ⟨⟨by first | omega | (simp only [List.length_append, List.length_cons, List.length_nil, List.length_set, List.length_take, List.length_drop, List.length_replicate, List.length_map, Nat.min_def]; omega) | (simp; done) | (simp; omega) | done, by first | omega | (simp only [List.length_append, List.length_cons, List.length_nil, List.length_set, List.length_take, List.length_drop, List.length_replicate, List.length_map, Nat.min_def]; omega) | (simp; done) | (simp; omega) | done⟩, trivial⟩ ?_
      intro a w h
      replace h := at_out (σ' := ⟨[(0, aF (.int 3) x0), (1, aI ((x1 + ((ctL (Sh.ct (.int 3)) (List.take i x0) : Nat) : Int)) + 1)), (4, aI 0), (5, aI (((i : Nat) : Int) + 1))], []⟩) { ts := [0, 1, 4, 5], os := [] } h (by kernel_rfl)
      exact ⟨i + 1, at_eq h (st_congr2 (fun (d0 : Int) (d1 : Int) => (⟨[(0, aF (.int 3) x0), (1, aI d0), (4, aI 0), (5, aI d1)], []⟩ : St)) (show ((x1 + ((ctL (Sh.ct (.int 3)) (List.take i x0) : Nat) : Int)) + 1 : Int) = (x1 + ((ctL (Sh.ct (.int 3)) (List.take (i + 1) x0) : Nat) : Int)) from by first | rfl | (omega)) (show (((i : Nat) : Int) + 1 : Int) = (((i + 1) : Nat) : Int) from by first | rfl | (omega))), (by exact ⟨by omega, mkL_step (z := 0) (by omega) hok0.2 (by show ((x1 + ((ctL (Sh.ct (.int 3)) (List.take i x0) : Nat) : Int)) : Int) = (x0.getD i 0); omega)⟩), (by omega)⟩
  · replace h1 : ¬ (((i : Nat) : Int) < ((List.length x0 : Nat) : Int)) := of_decide_eq_false h1
    refine wp_exit ?_
    refine then_exit ?_
    refine then_exit ?_
    refine in_hit ?_
    refine then_normal ?_
    refine wp_seq ?_
    refine at_reg (T := S_laws_heldIntS_tab) [] { ts := [4], os := [] } ⟨[(4, aI (x1 + ((ctL (Sh.ct (.int 3)) (List.take i x0) : Nat) : Int)))], []⟩ [] gamOK hT h (by kernel_rfl) trivial ?_
    intro a w h
    refine then_normal ?_
    refine wp_ret ?_
    exact at_return (S := S_laws_heldIntS) (x := (x0, x1, ())) ((x1 + ((ctL (Sh.ct (.int 3)) (List.take i x0) : Nat) : Int)), ()) [] h (by kernel_rfl) trivial (congrArg (fun z => (z, ())) (show ((x1 + ((ctL (Sh.ct (.int 3)) (List.take i x0) : Nat) : Int))) = (heldD s34) x0 x1 from by have e := hok0.2; rw [take_all (by omega)] at e; rw [heldD_pos (s := s34) e, hct0, take_all (by omega)]))

def S_laws_heldIntSS : Sum := { fid := 179, dom := [s185, (.int 3)], cod := [(.int 3)], dp := true, fz := false, pre := fun x => (pMk s185) x.1 x.2.1, g := fun x => (((heldD s185) x.1 x.2.1), ()) }
def S_laws_heldIntSS_tab : List (Nat × Sum) := [(64, S_laws_heldIntS)]
theorem S_laws_heldIntSS_ok : FnOK Try.prog 179 S_laws_heldIntSS := by
  refine at_enter 21 (fun x => ⟨[(0, aF s34 x.1), (1, aI x.2.1)], []⟩) Try.func179 rfl (by kernel_rfl) (fun x => rfl) ?_
  rintro w0 Z0 ⟨x0, x1, u⟩ a w
  revert x0 x1
  intro (x0 : (List (List Int))) (x1 : Int) hpre hlens h
  replace h : At w0 Z0 [] 21 ⟨[(0, aF s34 x0), (1, aI x1)], []⟩ a w := h
  replace hpre : (pMk s185) x0 x1 := hpre
  have hl1 : List.length x0 ≤ 9223372036854775807 := hlens.1.1
  have hT : TabOK Try.prog S_laws_heldIntSS_tab := (.cons S_laws_heldIntS_ok .nil)
  have hp : 0 ≤ x1 ∧ x1 + ((Sh.ct s185 x0 : Nat) : Int) ≤ 4611686018427387904 := hpre
  have hct0 : Sh.ct s185 x0 = ctL (Sh.ct s34) x0 := rfl
  refine wp_seq ?_
  refine at_regq (T := S_laws_heldIntSS_tab) [] { ts := [0, 1, 4], os := [] } [] gamOK hT h (by kernel_rfl) trivial ?_
  intro a w h
  refine then_normal ?_
  refine wp_seq ?_
  refine wp_seq ?_
  refine at_regq (T := S_laws_heldIntSS_tab) [] { ts := [0, 1, 4, 5], os := [] } [] gamOK hT h (by kernel_rfl) trivial ?_
  intro a w h
  refine then_normal ?_
  refine wp_block ?_
  replace h := at_out (σ' := ⟨[(0, aF s34 x0), (1, aI x1), (4, aI 0), (5, aI 0)], []⟩) { ts := [0, 1, 4, 5], os := [] } h (by kernel_rfl)
  refine at_loop (fun i : Nat => (⟨[(0, aF s34 x0), (1, aI (x1 + ((ctL (Sh.ct s34) (List.take i x0) : Nat) : Int))), (4, aI 0), (5, aI ((i : Nat) : Int))], []⟩ : St)) (fun i => (i ≤ List.length x0 ∧ mkL (Sh.mk s34) (Sh.ct s34) x1 (x0.take i) = x0.take i)) (fun i => List.length x0 - i) (0) h (st_congr2 (fun (d0 : Int) (d1 : Int) => (⟨[(0, aF s34 x0), (1, aI d0), (4, aI 0), (5, aI d1)], []⟩ : St)) (show (x1 : Int) = (x1 + ((ctL (Sh.ct s34) (List.take (0) x0) : Nat) : Int)) from by first | rfl | (simp [ctL])) (show (0 : Int) = (((0) : Nat) : Int) from by first | rfl | (simp [ctL]))) (by exact ⟨Nat.zero_le _, by simp [mkL]⟩) ?_
  intro i a w hok0 h
  refine wp_seq ?_
  refine wp_seq ?_
  refine at_regq (T := S_laws_heldIntSS_tab) [] { ts := [0, 1, 4, 5, 9], os := [] } [] gamOK hT h (by kernel_rfl) trivial ?_
  intro a w h
  refine then_normal ?_
  refine at_test (decide (((i : Nat) : Int) < ((List.length x0 : Nat) : Int))) h (by kernel_rfl) (fun h1 => ?_) (fun h1 => ?_)
  · replace h1 : ((i : Nat) : Int) < ((List.length x0 : Nat) : Int) := of_decide_eq_true h1
    have hat := ctL_at_le (c := Sh.ct s34) (xs := x0) (z := []) (i := i) (by omega)
    have hsu := ctL_take_succ (c := Sh.ct s34) (xs := x0) (z := []) (i := i) (by omega)
    have hci : Sh.ct s34 (x0.getD i []) = (Sh.ct s34 (x0.getD i [])) := rfl
    refine wp_skip ?_
    refine then_normal ?_
    refine wp_seq ?_
    refine wp_block ?_
    refine wp_seq ?_
    refine at_reg (T := S_laws_heldIntSS_tab) [] { ts := [0, 1, 4, 5], os := [] } ⟨[(0, aF s34 x0), (1, aI ((heldD s34) (x0.getD i []) (x1 + ((ctL (Sh.ct s34) (List.take i x0) : Nat) : Int)))), (4, aI 0), (5, aI ((i : Nat) : Int))], []⟩ [(0 : Int) ≤ ((i : Nat) : Int) ∧ ((i : Nat) : Int) < ((List.length x0 : Nat) : Int), (pMk s34) (x0.getD i []) (x1 + ((ctL (Sh.ct s34) (List.take i x0) : Nat) : Int))] gamOK hT h (by kernel_rfl) ⟨(by refine ⟨?_, ?_⟩ <;> (first | omega | (simp only [List.length_append, List.length_cons, List.length_nil, List.length_set, List.length_take, List.length_drop, List.length_replicate, List.length_map, Nat.min_def]; omega) | (simp; done) | (simp; omega) | done)), (by (first | (show (0 : Int) ≤ _ ∧ _ + ((Sh.ct _ _ : Nat) : Int) ≤ (4611686018427387904 : Int); constructor <;> omega) | (show (0 : Int) ≤ _ ∧ _ + ((Sh.ctT _ _ : Nat) : Int) ≤ (4611686018427387904 : Int); constructor <;> omega))), trivial⟩ ?_
    intro a w h
    refine then_normal ?_
    refine wp_seq ?_
    refine at_regq (T := S_laws_heldIntSS_tab) [] { ts := [0, 1, 4, 5, 19], os := [] } [] gamOK hT h (by kernel_rfl) trivial ?_
    intro a w h
    refine then_normal ?_
    refine at_test (decide (((heldD s34) (x0.getD i []) (x1 + ((ctL (Sh.ct s34) (List.take i x0) : Nat) : Int))) < 0)) h (by kernel_rfl) (fun h2 => ?_) (fun h2 => ?_)
    · replace h2 : ((heldD s34) (x0.getD i []) (x1 + ((ctL (Sh.ct s34) (List.take i x0) : Nat) : Int))) < 0 := of_decide_eq_true h2
      have hvh2 := heldD_neg (by omega) h2
      refine wp_seq ?_
      refine at_regq (T := S_laws_heldIntSS_tab) [] { ts := [0, 1, 4, 5], os := [] } [] gamOK hT h (by kernel_rfl) trivial ?_
      intro a w h
      refine then_normal ?_
      refine wp_ret ?_
      refine in_ret ?_
      refine then_ret ?_
      refine then_ret ?_
      refine in_ret ?_
      refine then_ret ?_
      exact at_return (S := S_laws_heldIntSS) (x := (x0, x1, ())) ((-1), ()) [] h (by kernel_rfl) trivial (congrArg (fun z => (z, ())) (show ((-1)) = (heldD s185) x0 x1 from by refine (heldD_no (s := s185) (fun e => ?_)).symm; have e2 : Sh.mk s34 (x0.getD i []) ((x1 + ((ctL (Sh.ct s34) (List.take i x0) : Nat) : Int))) = (x0.getD i []) := congrArg (fun (y : (List Int)) => y) (mkL_get (z := []) (i := i) e (by omega)); exact hvh2 ((congrArg (fun k => Sh.mk s34 (x0.getD i []) k) (show (_ : Int) = (x1 + ((ctL (Sh.ct s34) (List.take i x0) : Nat) : Int)) from by first | rfl | omega)).trans e2)))
    · replace h2 : ¬ (((heldD s34) (x0.getD i []) (x1 + ((ctL (Sh.ct s34) (List.take i x0) : Nat) : Int))) < 0) := of_decide_eq_false h2
      have hvh2 := heldD_val h2
      refine wp_skip ?_
      refine in_normal ?_
      refine then_normal ?_
      refine at_regq (T := S_laws_heldIntSS_tab) [{}, { nw := true }] { ts := [0, 1, 4, 5], os := [] } [I64 (((i : Nat) : Int) + 1)] gamOK hT h (by kernel_rfl) ⟨⟨by first | omega | (simp only [List.length_append, List.length_cons, List.length_nil, List.length_set, List.length_take, List.length_drop, List.length_replicate, List.length_map, Nat.min_def]; omega) | (simp; done) | (simp; omega) | done, by first | omega | (simp only [List.length_append, List.length_cons, List.length_nil, List.length_set, List.length_take, List.length_drop, List.length_replicate, List.length_map, Nat.min_def]; omega) | (simp; done) | (simp; omega) | done⟩, trivial⟩ ?_
      intro a w h
      replace h := at_out (σ' := ⟨[(0, aF s34 x0), (1, aI ((heldD s34) (x0.getD i []) (x1 + ((ctL (Sh.ct s34) (List.take i x0) : Nat) : Int)))), (4, aI 0), (5, aI (((i : Nat) : Int) + 1))], []⟩) { ts := [0, 1, 4, 5], os := [] } h (by kernel_rfl)
      exact ⟨i + 1, at_eq h (st_congr2 (fun (d0 : Int) (d1 : Int) => (⟨[(0, aF s34 x0), (1, aI d0), (4, aI 0), (5, aI d1)], []⟩ : St)) (show (((heldD s34) (x0.getD i []) (x1 + ((ctL (Sh.ct s34) (List.take i x0) : Nat) : Int))) : Int) = (x1 + ((ctL (Sh.ct s34) (List.take (i + 1) x0) : Nat) : Int)) from by first | rfl | (omega)) (show (((i : Nat) : Int) + 1 : Int) = (((i + 1) : Nat) : Int) from by first | rfl | (omega))), (by exact ⟨by omega, mkL_step (z := []) (by omega) hok0.2 ((congrArg (fun k => Sh.mk s34 (x0.getD i []) k) (show ((x1 + ((ctL (Sh.ct s34) (List.take i x0) : Nat) : Int)) : Int) = _ from by first | rfl | omega)).trans hvh2.1)⟩), (by omega)⟩
  · replace h1 : ¬ (((i : Nat) : Int) < ((List.length x0 : Nat) : Int)) := of_decide_eq_false h1
    refine wp_exit ?_
    refine then_exit ?_
    refine then_exit ?_
    refine in_hit ?_
    refine then_normal ?_
    refine wp_seq ?_
    refine at_reg (T := S_laws_heldIntSS_tab) [] { ts := [4], os := [] } ⟨[(4, aI (x1 + ((ctL (Sh.ct s34) (List.take i x0) : Nat) : Int)))], []⟩ [] gamOK hT h (by kernel_rfl) trivial ?_
    intro a w h
    refine then_normal ?_
    refine wp_ret ?_
    exact at_return (S := S_laws_heldIntSS) (x := (x0, x1, ())) ((x1 + ((ctL (Sh.ct s34) (List.take i x0) : Nat) : Int)), ()) [] h (by kernel_rfl) trivial (congrArg (fun z => (z, ())) (show ((x1 + ((ctL (Sh.ct s34) (List.take i x0) : Nat) : Int))) = (heldD s185) x0 x1 from by have e := hok0.2; rw [take_all (by omega)] at e; rw [heldD_pos (s := s185) e, hct0, take_all (by omega)]))

def S_laws_heldDecoderS : Sum := { fid := 143, dom := [s100, (.int 3)], cod := [(.int 3)], dp := true, fz := false, pre := fun x => (pMk s100) x.1 x.2.1, g := fun x => (((heldD s100) x.1 x.2.1), ()) }
def S_laws_heldDecoderS_tab : List (Nat × Sum) := [(179, S_laws_heldIntSS)]
theorem S_laws_heldDecoderS_ok : FnOK Try.prog 143 S_laws_heldDecoderS := by
  refine at_enter 60 (fun x => ⟨[(0, aF s189 x.1), (1, aI x.2.1)], []⟩) Try.func143 rfl (by kernel_rfl) (fun x => rfl) ?_
  rintro w0 Z0 ⟨x0, x1, u⟩ a w
  revert x0 x1
  intro (x0 : (List T189)) (x1 : Int) hpre hlens h
  replace h : At w0 Z0 [] 60 ⟨[(0, aF s189 x0), (1, aI x1)], []⟩ a w := h
  replace hpre : (pMk s100) x0 x1 := hpre
  have hl1 : List.length x0 ≤ 9223372036854775807 := hlens.1.1
  have hT : TabOK Try.prog S_laws_heldDecoderS_tab := (.cons S_laws_heldIntSS_ok .nil)
  have hp : 0 ≤ x1 ∧ x1 + ((Sh.ct s100 x0 : Nat) : Int) ≤ 4611686018427387904 := hpre
  have hct0 : Sh.ct s100 x0 = ctL (Sh.ct s189) x0 := rfl
  refine wp_seq ?_
  refine at_regq (T := S_laws_heldDecoderS_tab) [] { ts := [0, 1, 4], os := [] } [] gamOK hT h (by kernel_rfl) trivial ?_
  intro a w h
  refine then_normal ?_
  refine wp_seq ?_
  refine wp_seq ?_
  refine at_regq (T := S_laws_heldDecoderS_tab) [] { ts := [0, 1, 4, 5], os := [] } [] gamOK hT h (by kernel_rfl) trivial ?_
  intro a w h
  refine then_normal ?_
  refine wp_block ?_
  replace h := at_out (σ' := ⟨[(0, aF s189 x0), (1, aI x1), (4, aI 0), (5, aI 0)], []⟩) { ts := [0, 1, 4, 5], os := [] } h (by kernel_rfl)
  refine at_loop (fun i : Nat => (⟨[(0, aF s189 x0), (1, aI (x1 + ((ctL (Sh.ct s189) (List.take i x0) : Nat) : Int))), (4, aI 0), (5, aI ((i : Nat) : Int))], []⟩ : St)) (fun i => (i ≤ List.length x0 ∧ mkL (Sh.mk s189) (Sh.ct s189) x1 (x0.take i) = x0.take i)) (fun i => List.length x0 - i) (0) h (st_congr2 (fun (d0 : Int) (d1 : Int) => (⟨[(0, aF s189 x0), (1, aI d0), (4, aI 0), (5, aI d1)], []⟩ : St)) (show (x1 : Int) = (x1 + ((ctL (Sh.ct s189) (List.take (0) x0) : Nat) : Int)) from by first | rfl | (simp [ctL])) (show (0 : Int) = (((0) : Nat) : Int) from by first | rfl | (simp [ctL]))) (by exact ⟨Nat.zero_le _, by simp [mkL]⟩) ?_
  intro i a w hok0 h
  refine wp_seq ?_
  refine wp_seq ?_
  refine at_regq (T := S_laws_heldDecoderS_tab) [] { ts := [0, 1, 4, 5, 9], os := [] } [] gamOK hT h (by kernel_rfl) trivial ?_
  intro a w h
  refine then_normal ?_
  refine at_test (decide (((i : Nat) : Int) < ((List.length x0 : Nat) : Int))) h (by kernel_rfl) (fun h1 => ?_) (fun h1 => ?_)
  · replace h1 : ((i : Nat) : Int) < ((List.length x0 : Nat) : Int) := of_decide_eq_true h1
    have hat := ctL_at_le (c := Sh.ct s189) (xs := x0) (z := (0, (0, (0, (0, []))))) (i := i) (by omega)
    have hsu := ctL_take_succ (c := Sh.ct s189) (xs := x0) (z := (0, (0, (0, (0, []))))) (i := i) (by omega)
    have hci : Sh.ct s189 (x0.getD i (0, (0, (0, (0, []))))) = (1 + (1 + (1 + (1 + (Sh.ct s185 (x0.getD i (0, (0, (0, (0, []))))).2.2.2.2))))) := rfl
    refine wp_skip ?_
    refine then_normal ?_
    refine wp_seq ?_
    refine wp_block ?_
    refine wp_seq ?_
    refine wp_seq ?_
    refine at_reg (T := S_laws_heldDecoderS_tab) [] { ts := [0, 1, 4, 5, 18], os := [] } ⟨[(0, aF s189 x0), (1, aI (x1 + ((ctL (Sh.ct s189) (List.take i x0) : Nat) : Int))), (4, aI 0), (5, aI ((i : Nat) : Int)), (18, aB (!decide ((x0.getD i (0, (0, (0, (0, []))))).1 = (x1 + ((ctL (Sh.ct s189) (List.take i x0) : Nat) : Int)))))], []⟩ [(0 : Int) ≤ ((i : Nat) : Int) ∧ ((i : Nat) : Int) < ((List.length x0 : Nat) : Int)] gamOK hT h (by kernel_rfl) ⟨(by refine ⟨?_, ?_⟩ <;> (first | omega | (simp only [List.length_append, List.length_cons, List.length_nil, List.length_set, List.length_take, List.length_drop, List.length_replicate, List.length_map, Nat.min_def]; omega) | (simp; done) | (simp; omega) | done)), trivial⟩ ?_
    intro a w h
    refine then_normal ?_
    refine at_test (!decide ((x0.getD i (0, (0, (0, (0, []))))).1 = (x1 + ((ctL (Sh.ct s189) (List.take i x0) : Nat) : Int)))) h (by kernel_rfl) (fun h2 => ?_) (fun h2 => ?_)
    · replace h2 : ¬ ((x0.getD i (0, (0, (0, (0, []))))).1 = (x1 + ((ctL (Sh.ct s189) (List.take i x0) : Nat) : Int))) := by simpa using h2
      refine wp_seq ?_
      refine at_regq (T := S_laws_heldDecoderS_tab) [] { ts := [0, 1, 4, 5], os := [] } [] gamOK hT h (by kernel_rfl) trivial ?_
      intro a w h
      refine then_normal ?_
      refine wp_ret ?_
      refine then_ret ?_
      refine in_ret ?_
      refine then_ret ?_
      refine then_ret ?_
      refine in_ret ?_
      refine then_ret ?_
      exact at_return (S := S_laws_heldDecoderS) (x := (x0, x1, ())) ((-1), ()) [] h (by kernel_rfl) trivial (congrArg (fun z => (z, ())) (show ((-1)) = (heldD s100) x0 x1 from by refine (heldD_no (s := s100) (fun e => ?_)).symm; have e2 : (x1 + ((ctL (Sh.ct s189) (List.take i x0) : Nat) : Int)) = (x0.getD i (0, (0, (0, (0, []))))).1 := congrArg (fun (y : T189) => y.1) (mkL_get (z := (0, (0, (0, (0, []))))) (i := i) e (by omega)); omega))
    · replace h2 : (x0.getD i (0, (0, (0, (0, []))))).1 = (x1 + ((ctL (Sh.ct s189) (List.take i x0) : Nat) : Int)) := by simpa using h2
      refine wp_skip ?_
      refine then_normal ?_
      refine wp_seq ?_
      refine at_regq (T := S_laws_heldDecoderS_tab) [{}, { nw := true }] { ts := [0, 1, 4, 5], os := [] } [I64 ((x1 + ((ctL (Sh.ct s189) (List.take i x0) : Nat) : Int)) + 1)] gamOK hT h (by kernel_rfl) ⟨⟨by first | omega | (simp only [List.length_append, List.length_cons, List.length_nil, List.length_set, List.length_take, List.length_drop, List.length_replicate, List.length_map, Nat.min_def]; omega) | (simp; done) | (simp; omega) | done, by first | omega | (simp only [List.length_append, List.length_cons, List.length_nil, List.length_set, List.length_take, List.length_drop, List.length_replicate, List.length_map, Nat.min_def]; omega) | (simp; done) | (simp; omega) | done⟩, trivial⟩ ?_
      intro a w h
      refine then_normal ?_
      refine wp_seq ?_
      refine wp_seq ?_
      refine at_regq (T := S_laws_heldDecoderS_tab) [] { ts := [0, 1, 4, 5, 27], os := [] } [(0 : Int) ≤ ((i : Nat) : Int) ∧ ((i : Nat) : Int) < ((List.length x0 : Nat) : Int)] gamOK hT h (by kernel_rfl) ⟨(by refine ⟨?_, ?_⟩ <;> (first | omega | (simp only [List.length_append, List.length_cons, List.length_nil, List.length_set, List.length_take, List.length_drop, List.length_replicate, List.length_map, Nat.min_def]; omega) | (simp; done) | (simp; omega) | done)), trivial⟩ ?_
      intro a w h
      refine then_normal ?_
      refine at_test (!decide ((x0.getD i (0, (0, (0, (0, []))))).2.1 = (x1 + ((ctL (Sh.ct s189) (List.take i x0) : Nat) : Int)) + 1)) h (by kernel_rfl) (fun h3 => ?_) (fun h3 => ?_)
      · replace h3 : ¬ ((x0.getD i (0, (0, (0, (0, []))))).2.1 = (x1 + ((ctL (Sh.ct s189) (List.take i x0) : Nat) : Int)) + 1) := by simpa using h3
        refine wp_seq ?_
        refine at_regq (T := S_laws_heldDecoderS_tab) [] { ts := [0, 1, 4, 5], os := [] } [] gamOK hT h (by kernel_rfl) trivial ?_
        intro a w h
        refine then_normal ?_
        refine wp_ret ?_
        refine then_ret ?_
        refine in_ret ?_
        refine then_ret ?_
        refine then_ret ?_
        refine in_ret ?_
        refine then_ret ?_
        exact at_return (S := S_laws_heldDecoderS) (x := (x0, x1, ())) ((-1), ()) [] h (by kernel_rfl) trivial (congrArg (fun z => (z, ())) (show ((-1)) = (heldD s100) x0 x1 from by refine (heldD_no (s := s100) (fun e => ?_)).symm; have e2 : (x1 + ((ctL (Sh.ct s189) (List.take i x0) : Nat) : Int)) + ((1 : Nat) : Int) = (x0.getD i (0, (0, (0, (0, []))))).2.1 := congrArg (fun (y : T189) => y.2.1) (mkL_get (z := (0, (0, (0, (0, []))))) (i := i) e (by omega)); omega))
      · replace h3 : (x0.getD i (0, (0, (0, (0, []))))).2.1 = (x1 + ((ctL (Sh.ct s189) (List.take i x0) : Nat) : Int)) + 1 := by simpa using h3
        refine wp_skip ?_
        refine then_normal ?_
        refine wp_seq ?_
        refine at_regq (T := S_laws_heldDecoderS_tab) [{}, { nw := true }] { ts := [0, 1, 4, 5], os := [] } [I64 (((x1 + ((ctL (Sh.ct s189) (List.take i x0) : Nat) : Int)) + 1) + 1)] gamOK hT h (by kernel_rfl) ⟨⟨by first | omega | (simp only [List.length_append, List.length_cons, List.length_nil, List.length_set, List.length_take, List.length_drop, List.length_replicate, List.length_map, Nat.min_def]; omega) | (simp; done) | (simp; omega) | done, by first | omega | (simp only [List.length_append, List.length_cons, List.length_nil, List.length_set, List.length_take, List.length_drop, List.length_replicate, List.length_map, Nat.min_def]; omega) | (simp; done) | (simp; omega) | done⟩, trivial⟩ ?_
        intro a w h
        refine then_normal ?_
        refine wp_seq ?_
        refine wp_seq ?_
        refine at_reg (T := S_laws_heldDecoderS_tab) [] { ts := [0, 1, 4, 5, 36], os := [] } ⟨[(0, aF s189 x0), (1, aI (((x1 + ((ctL (Sh.ct s189) (List.take i x0) : Nat) : Int)) + 1) + 1)), (4, aI 0), (5, aI ((i : Nat) : Int)), (36, aB (!decide ((x0.getD i (0, (0, (0, (0, []))))).2.2.1 = ((x1 + ((ctL (Sh.ct s189) (List.take i x0) : Nat) : Int)) + 1) + 1)))], []⟩ [(0 : Int) ≤ ((i : Nat) : Int) ∧ ((i : Nat) : Int) < ((List.length x0 : Nat) : Int)] gamOK hT h (by kernel_rfl) ⟨(by refine ⟨?_, ?_⟩ <;> (first | omega | (simp only [List.length_append, List.length_cons, List.length_nil, List.length_set, List.length_take, List.length_drop, List.length_replicate, List.length_map, Nat.min_def]; omega) | (simp; done) | (simp; omega) | done)), trivial⟩ ?_
        intro a w h
        refine then_normal ?_
        refine at_test (!decide ((x0.getD i (0, (0, (0, (0, []))))).2.2.1 = ((x1 + ((ctL (Sh.ct s189) (List.take i x0) : Nat) : Int)) + 1) + 1)) h (by kernel_rfl) (fun h4 => ?_) (fun h4 => ?_)
        · replace h4 : ¬ ((x0.getD i (0, (0, (0, (0, []))))).2.2.1 = ((x1 + ((ctL (Sh.ct s189) (List.take i x0) : Nat) : Int)) + 1) + 1) := by simpa using h4
          refine wp_seq ?_
          refine at_regq (T := S_laws_heldDecoderS_tab) [] { ts := [0, 1, 4, 5], os := [] } [] gamOK hT h (by kernel_rfl) trivial ?_
          intro a w h
          refine then_normal ?_
          refine wp_ret ?_
          refine then_ret ?_
          refine in_ret ?_
          refine then_ret ?_
          refine then_ret ?_
          refine in_ret ?_
          refine then_ret ?_
          exact at_return (S := S_laws_heldDecoderS) (x := (x0, x1, ())) ((-1), ()) [] h (by kernel_rfl) trivial (congrArg (fun z => (z, ())) (show ((-1)) = (heldD s100) x0 x1 from by refine (heldD_no (s := s100) (fun e => ?_)).symm; have e2 : (x1 + ((ctL (Sh.ct s189) (List.take i x0) : Nat) : Int)) + ((1 : Nat) : Int) + ((1 : Nat) : Int) = (x0.getD i (0, (0, (0, (0, []))))).2.2.1 := congrArg (fun (y : T189) => y.2.2.1) (mkL_get (z := (0, (0, (0, (0, []))))) (i := i) e (by omega)); omega))
        · replace h4 : (x0.getD i (0, (0, (0, (0, []))))).2.2.1 = ((x1 + ((ctL (Sh.ct s189) (List.take i x0) : Nat) : Int)) + 1) + 1 := by simpa using h4
          refine wp_skip ?_
          refine then_normal ?_
          refine wp_seq ?_
          refine at_regq (T := S_laws_heldDecoderS_tab) [{}, { nw := true }] { ts := [0, 1, 4, 5], os := [] } [I64 ((((x1 + ((ctL (Sh.ct s189) (List.take i x0) : Nat) : Int)) + 1) + 1) + 1)] gamOK hT h (by kernel_rfl) ⟨⟨by first | omega | (simp only [List.length_append, List.length_cons, List.length_nil, List.length_set, List.length_take, List.length_drop, List.length_replicate, List.length_map, Nat.min_def]; omega) | (simp; done) | (simp; omega) | done, by first | omega | (simp only [List.length_append, List.length_cons, List.length_nil, List.length_set, List.length_take, List.length_drop, List.length_replicate, List.length_map, Nat.min_def]; omega) | (simp; done) | (simp; omega) | done⟩, trivial⟩ ?_
          intro a w h
          refine then_normal ?_
          refine wp_seq ?_
          refine wp_seq ?_
          refine at_regq (T := S_laws_heldDecoderS_tab) [] { ts := [0, 1, 4, 5, 46], os := [] } [(0 : Int) ≤ ((i : Nat) : Int) ∧ ((i : Nat) : Int) < ((List.length x0 : Nat) : Int)] gamOK hT h (by kernel_rfl) ⟨(by refine ⟨?_, ?_⟩ <;> (first | omega | (simp only [List.length_append, List.length_cons, List.length_nil, List.length_set, List.length_take, List.length_drop, List.length_replicate, List.length_map, Nat.min_def]; omega) | (simp; done) | (simp; omega) | done)), trivial⟩ ?_
          intro a w h
          refine then_normal ?_
          refine at_test (!decide ((x0.getD i (0, (0, (0, (0, []))))).2.2.2.1 = (((x1 + ((ctL (Sh.ct s189) (List.take i x0) : Nat) : Int)) + 1) + 1) + 1)) h (by kernel_rfl) (fun h5 => ?_) (fun h5 => ?_)
          · replace h5 : ¬ ((x0.getD i (0, (0, (0, (0, []))))).2.2.2.1 = (((x1 + ((ctL (Sh.ct s189) (List.take i x0) : Nat) : Int)) + 1) + 1) + 1) := by simpa using h5
            refine wp_seq ?_
            refine at_regq (T := S_laws_heldDecoderS_tab) [] { ts := [0, 1, 4, 5], os := [] } [] gamOK hT h (by kernel_rfl) trivial ?_
            intro a w h
            refine then_normal ?_
            refine wp_ret ?_
            refine then_ret ?_
            refine in_ret ?_
            refine then_ret ?_
            refine then_ret ?_
            refine in_ret ?_
            refine then_ret ?_
            exact at_return (S := S_laws_heldDecoderS) (x := (x0, x1, ())) ((-1), ()) [] h (by kernel_rfl) trivial (congrArg (fun z => (z, ())) (show ((-1)) = (heldD s100) x0 x1 from by refine (heldD_no (s := s100) (fun e => ?_)).symm; have e2 : (x1 + ((ctL (Sh.ct s189) (List.take i x0) : Nat) : Int)) + ((1 : Nat) : Int) + ((1 : Nat) : Int) + ((1 : Nat) : Int) = (x0.getD i (0, (0, (0, (0, []))))).2.2.2.1 := congrArg (fun (y : T189) => y.2.2.2.1) (mkL_get (z := (0, (0, (0, (0, []))))) (i := i) e (by omega)); omega))
          · replace h5 : (x0.getD i (0, (0, (0, (0, []))))).2.2.2.1 = (((x1 + ((ctL (Sh.ct s189) (List.take i x0) : Nat) : Int)) + 1) + 1) + 1 := by simpa using h5
            refine wp_skip ?_
            refine then_normal ?_
            refine wp_seq ?_
            refine at_regq (T := S_laws_heldDecoderS_tab) [{}, { nw := true }] { ts := [0, 1, 4, 5], os := [] } [I64 (((((x1 + ((ctL (Sh.ct s189) (List.take i x0) : Nat) : Int)) + 1) + 1) + 1) + 1)] gamOK hT h (by kernel_rfl) ⟨⟨by first | omega | (simp only [List.length_append, List.length_cons, List.length_nil, List.length_set, List.length_take, List.length_drop, List.length_replicate, List.length_map, Nat.min_def]; omega) | (simp; done) | (simp; omega) | done, by first | omega | (simp only [List.length_append, List.length_cons, List.length_nil, List.length_set, List.length_take, List.length_drop, List.length_replicate, List.length_map, Nat.min_def]; omega) | (simp; done) | (simp; omega) | done⟩, trivial⟩ ?_
            intro a w h
            refine then_normal ?_
            refine wp_seq ?_
            refine at_reg (T := S_laws_heldDecoderS_tab) [] { ts := [0, 1, 4, 5], os := [] } ⟨[(0, aF s189 x0), (1, aI ((heldD s185) (x0.getD i (0, (0, (0, (0, []))))).2.2.2.2 (((((x1 + ((ctL (Sh.ct s189) (List.take i x0) : Nat) : Int)) + 1) + 1) + 1) + 1))), (4, aI 0), (5, aI ((i : Nat) : Int))], []⟩ [(0 : Int) ≤ ((i : Nat) : Int) ∧ ((i : Nat) : Int) < ((List.length x0 : Nat) : Int), (pMk s185) (x0.getD i (0, (0, (0, (0, []))))).2.2.2.2 (((((x1 + ((ctL (Sh.ct s189) (List.take i x0) : Nat) : Int)) + 1) + 1) + 1) + 1)] gamOK hT h (by kernel_rfl) ⟨(by refine ⟨?_, ?_⟩ <;> (first | omega | (simp only [List.length_append, List.length_cons, List.length_nil, List.length_set, List.length_take, List.length_drop, List.length_replicate, List.length_map, Nat.min_def]; omega) | (simp; done) | (simp; omega) | done)), (by (first | (show (0 : Int) ≤ _ ∧ _ + ((Sh.ct _ _ : Nat) : Int) ≤ (4611686018427387904 : Int); constructor <;> omega) | (show (0 : Int) ≤ _ ∧ _ + ((Sh.ctT _ _ : Nat) : Int) ≤ (4611686018427387904 : Int); constructor <;> omega))), trivial⟩ ?_
            intro a w h
            refine then_normal ?_
            refine wp_seq ?_
            refine at_regq (T := S_laws_heldDecoderS_tab) [] { ts := [0, 1, 4, 5, 58], os := [] } [] gamOK hT h (by kernel_rfl) trivial ?_
            intro a w h
            refine then_normal ?_
            refine at_test (decide (((heldD s185) (x0.getD i (0, (0, (0, (0, []))))).2.2.2.2 (((((x1 + ((ctL (Sh.ct s189) (List.take i x0) : Nat) : Int)) + 1) + 1) + 1) + 1)) < 0)) h (by kernel_rfl) (fun h6 => ?_) (fun h6 => ?_)
            · replace h6 : ((heldD s185) (x0.getD i (0, (0, (0, (0, []))))).2.2.2.2 (((((x1 + ((ctL (Sh.ct s189) (List.take i x0) : Nat) : Int)) + 1) + 1) + 1) + 1)) < 0 := of_decide_eq_true h6
              have hvh6 := heldD_neg (by omega) h6
              refine wp_seq ?_
              refine at_regq (T := S_laws_heldDecoderS_tab) [] { ts := [0, 1, 4, 5], os := [] } [] gamOK hT h (by kernel_rfl) trivial ?_
              intro a w h
              refine then_normal ?_
              refine wp_ret ?_
              refine in_ret ?_
              refine then_ret ?_
              refine then_ret ?_
              refine in_ret ?_
              refine then_ret ?_
              exact at_return (S := S_laws_heldDecoderS) (x := (x0, x1, ())) ((-1), ()) [] h (by kernel_rfl) trivial (congrArg (fun z => (z, ())) (show ((-1)) = (heldD s100) x0 x1 from by refine (heldD_no (s := s100) (fun e => ?_)).symm; have e2 : Sh.mk s185 (x0.getD i (0, (0, (0, (0, []))))).2.2.2.2 ((x1 + ((ctL (Sh.ct s189) (List.take i x0) : Nat) : Int)) + ((1 : Nat) : Int) + ((1 : Nat) : Int) + ((1 : Nat) : Int) + ((1 : Nat) : Int)) = (x0.getD i (0, (0, (0, (0, []))))).2.2.2.2 := congrArg (fun (y : T189) => y.2.2.2.2) (mkL_get (z := (0, (0, (0, (0, []))))) (i := i) e (by omega)); exact hvh6 ((congrArg (fun k => Sh.mk s185 (x0.getD i (0, (0, (0, (0, []))))).2.2.2.2 k) (show (_ : Int) = (x1 + ((ctL (Sh.ct s189) (List.take i x0) : Nat) : Int)) + ((1 : Nat) : Int) + ((1 : Nat) : Int) + ((1 : Nat) : Int) + ((1 : Nat) : Int) from by first | rfl | omega)).trans e2)))
            · replace h6 : ¬ (((heldD s185) (x0.getD i (0, (0, (0, (0, []))))).2.2.2.2 (((((x1 + ((ctL (Sh.ct s189) (List.take i x0) : Nat) : Int)) + 1) + 1) + 1) + 1)) < 0) := of_decide_eq_false h6
              have hvh6 := heldD_val h6
              refine wp_skip ?_
              refine in_normal ?_
              refine then_normal ?_
              refine at_regq (T := S_laws_heldDecoderS_tab) [{}, { nw := true }] { ts := [0, 1, 4, 5], os := [] } [I64 (((i : Nat) : Int) + 1)] gamOK hT h (by kernel_rfl) ⟨⟨by first | omega | (simp only [List.length_append, List.length_cons, List.length_nil, List.length_set, List.length_take, List.length_drop, List.length_replicate, List.length_map, Nat.min_def]; omega) | (simp; done) | (simp; omega) | done, by first | omega | (simp only [List.length_append, List.length_cons, List.length_nil, List.length_set, List.length_take, List.length_drop, List.length_replicate, List.length_map, Nat.min_def]; omega) | (simp; done) | (simp; omega) | done⟩, trivial⟩ ?_
              intro a w h
              replace h := at_out (σ' := ⟨[(0, aF s189 x0), (1, aI ((heldD s185) (x0.getD i (0, (0, (0, (0, []))))).2.2.2.2 (((((x1 + ((ctL (Sh.ct s189) (List.take i x0) : Nat) : Int)) + 1) + 1) + 1) + 1))), (4, aI 0), (5, aI (((i : Nat) : Int) + 1))], []⟩) { ts := [0, 1, 4, 5], os := [] } h (by kernel_rfl)
              exact ⟨i + 1, at_eq h (st_congr2 (fun (d0 : Int) (d1 : Int) => (⟨[(0, aF s189 x0), (1, aI d0), (4, aI 0), (5, aI d1)], []⟩ : St)) (show (((heldD s185) (x0.getD i (0, (0, (0, (0, []))))).2.2.2.2 (((((x1 + ((ctL (Sh.ct s189) (List.take i x0) : Nat) : Int)) + 1) + 1) + 1) + 1)) : Int) = (x1 + ((ctL (Sh.ct s189) (List.take (i + 1) x0) : Nat) : Int)) from by first | rfl | (omega)) (show (((i : Nat) : Int) + 1 : Int) = (((i + 1) : Nat) : Int) from by first | rfl | (omega))), (by exact ⟨by omega, mkL_step (z := (0, (0, (0, (0, []))))) (by omega) hok0.2 (Prod.ext (by show ((x1 + ((ctL (Sh.ct s189) (List.take i x0) : Nat) : Int)) : Int) = (x0.getD i (0, (0, (0, (0, []))))).1; omega) (Prod.ext (by show ((x1 + ((ctL (Sh.ct s189) (List.take i x0) : Nat) : Int)) + ((1 : Nat) : Int) : Int) = (x0.getD i (0, (0, (0, (0, []))))).2.1; omega) (Prod.ext (by show ((x1 + ((ctL (Sh.ct s189) (List.take i x0) : Nat) : Int)) + ((1 : Nat) : Int) + ((1 : Nat) : Int) : Int) = (x0.getD i (0, (0, (0, (0, []))))).2.2.1; omega) (Prod.ext (by show ((x1 + ((ctL (Sh.ct s189) (List.take i x0) : Nat) : Int)) + ((1 : Nat) : Int) + ((1 : Nat) : Int) + ((1 : Nat) : Int) : Int) = (x0.getD i (0, (0, (0, (0, []))))).2.2.2.1; omega) ((congrArg (fun k => Sh.mk s185 (x0.getD i (0, (0, (0, (0, []))))).2.2.2.2 k) (show ((x1 + ((ctL (Sh.ct s189) (List.take i x0) : Nat) : Int)) + ((1 : Nat) : Int) + ((1 : Nat) : Int) + ((1 : Nat) : Int) + ((1 : Nat) : Int) : Int) = _ from by first | rfl | omega)).trans hvh6.1)))))⟩), (by omega)⟩
  · replace h1 : ¬ (((i : Nat) : Int) < ((List.length x0 : Nat) : Int)) := of_decide_eq_false h1
    refine wp_exit ?_
    refine then_exit ?_
    refine then_exit ?_
    refine in_hit ?_
    refine then_normal ?_
    refine wp_seq ?_
    refine at_reg (T := S_laws_heldDecoderS_tab) [] { ts := [4], os := [] } ⟨[(4, aI (x1 + ((ctL (Sh.ct s189) (List.take i x0) : Nat) : Int)))], []⟩ [] gamOK hT h (by kernel_rfl) trivial ?_
    intro a w h
    refine then_normal ?_
    refine wp_ret ?_
    exact at_return (S := S_laws_heldDecoderS) (x := (x0, x1, ())) ((x1 + ((ctL (Sh.ct s189) (List.take i x0) : Nat) : Int)), ()) [] h (by kernel_rfl) trivial (congrArg (fun z => (z, ())) (show ((x1 + ((ctL (Sh.ct s189) (List.take i x0) : Nat) : Int))) = (heldD s100) x0 x1 from by have e := hok0.2; rw [take_all (by omega)] at e; rw [heldD_pos (s := s100) e, hct0, take_all (by omega)]))

def S_laws_heldGenerationS : Sum := { fid := 144, dom := [s101, (.int 3)], cod := [(.int 3)], dp := true, fz := false, pre := fun x => (pMk s101) x.1 x.2.1, g := fun x => (((heldD s101) x.1 x.2.1), ()) }
def S_laws_heldGenerationS_tab : List (Nat × Sum) := [(179, S_laws_heldIntSS)]
theorem S_laws_heldGenerationS_ok : FnOK Try.prog 144 S_laws_heldGenerationS := by
  refine at_enter 31 (fun x => ⟨[(0, aF s192 x.1), (1, aI x.2.1)], []⟩) Try.func144 rfl (by kernel_rfl) (fun x => rfl) ?_
  rintro w0 Z0 ⟨x0, x1, u⟩ a w
  revert x0 x1
  intro (x0 : (List T192)) (x1 : Int) hpre hlens h
  replace h : At w0 Z0 [] 31 ⟨[(0, aF s192 x0), (1, aI x1)], []⟩ a w := h
  replace hpre : (pMk s101) x0 x1 := hpre
  have hl1 : List.length x0 ≤ 9223372036854775807 := hlens.1.1
  have hT : TabOK Try.prog S_laws_heldGenerationS_tab := (.cons S_laws_heldIntSS_ok .nil)
  have hp : 0 ≤ x1 ∧ x1 + ((Sh.ct s101 x0 : Nat) : Int) ≤ 4611686018427387904 := hpre
  have hct0 : Sh.ct s101 x0 = ctL (Sh.ct s192) x0 := rfl
  refine wp_seq ?_
  refine at_regq (T := S_laws_heldGenerationS_tab) [] { ts := [0, 1, 4], os := [] } [] gamOK hT h (by kernel_rfl) trivial ?_
  intro a w h
  refine then_normal ?_
  refine wp_seq ?_
  refine wp_seq ?_
  refine at_regq (T := S_laws_heldGenerationS_tab) [] { ts := [0, 1, 4, 5], os := [] } [] gamOK hT h (by kernel_rfl) trivial ?_
  intro a w h
  refine then_normal ?_
  refine wp_block ?_
  replace h := at_out (σ' := ⟨[(0, aF s192 x0), (1, aI x1), (4, aI 0), (5, aI 0)], []⟩) { ts := [0, 1, 4, 5], os := [] } h (by kernel_rfl)
  refine at_loop (fun i : Nat => (⟨[(0, aF s192 x0), (1, aI (x1 + ((ctL (Sh.ct s192) (List.take i x0) : Nat) : Int))), (4, aI 0), (5, aI ((i : Nat) : Int))], []⟩ : St)) (fun i => (i ≤ List.length x0 ∧ mkL (Sh.mk s192) (Sh.ct s192) x1 (x0.take i) = x0.take i)) (fun i => List.length x0 - i) (0) h (st_congr2 (fun (d0 : Int) (d1 : Int) => (⟨[(0, aF s192 x0), (1, aI d0), (4, aI 0), (5, aI d1)], []⟩ : St)) (show (x1 : Int) = (x1 + ((ctL (Sh.ct s192) (List.take (0) x0) : Nat) : Int)) from by first | rfl | (simp [ctL])) (show (0 : Int) = (((0) : Nat) : Int) from by first | rfl | (simp [ctL]))) (by exact ⟨Nat.zero_le _, by simp [mkL]⟩) ?_
  intro i a w hok0 h
  refine wp_seq ?_
  refine wp_seq ?_
  refine at_regq (T := S_laws_heldGenerationS_tab) [] { ts := [0, 1, 4, 5, 9], os := [] } [] gamOK hT h (by kernel_rfl) trivial ?_
  intro a w h
  refine then_normal ?_
  refine at_test (decide (((i : Nat) : Int) < ((List.length x0 : Nat) : Int))) h (by kernel_rfl) (fun h1 => ?_) (fun h1 => ?_)
  · replace h1 : ((i : Nat) : Int) < ((List.length x0 : Nat) : Int) := of_decide_eq_true h1
    have hat := ctL_at_le (c := Sh.ct s192) (xs := x0) (z := (0, [])) (i := i) (by omega)
    have hsu := ctL_take_succ (c := Sh.ct s192) (xs := x0) (z := (0, [])) (i := i) (by omega)
    have hci : Sh.ct s192 (x0.getD i (0, [])) = (1 + (Sh.ct s185 (x0.getD i (0, [])).2)) := rfl
    refine wp_skip ?_
    refine then_normal ?_
    refine wp_seq ?_
    refine wp_block ?_
    refine wp_seq ?_
    refine wp_seq ?_
    refine at_reg (T := S_laws_heldGenerationS_tab) [] { ts := [0, 1, 4, 5, 18], os := [] } ⟨[(0, aF s192 x0), (1, aI (x1 + ((ctL (Sh.ct s192) (List.take i x0) : Nat) : Int))), (4, aI 0), (5, aI ((i : Nat) : Int)), (18, aB (!decide ((x0.getD i (0, [])).1 = (x1 + ((ctL (Sh.ct s192) (List.take i x0) : Nat) : Int)))))], []⟩ [(0 : Int) ≤ ((i : Nat) : Int) ∧ ((i : Nat) : Int) < ((List.length x0 : Nat) : Int)] gamOK hT h (by kernel_rfl) ⟨(by refine ⟨?_, ?_⟩ <;> (first | omega | (simp only [List.length_append, List.length_cons, List.length_nil, List.length_set, List.length_take, List.length_drop, List.length_replicate, List.length_map, Nat.min_def]; omega) | (simp; done) | (simp; omega) | done)), trivial⟩ ?_
    intro a w h
    refine then_normal ?_
    refine at_test (!decide ((x0.getD i (0, [])).1 = (x1 + ((ctL (Sh.ct s192) (List.take i x0) : Nat) : Int)))) h (by kernel_rfl) (fun h2 => ?_) (fun h2 => ?_)
    · replace h2 : ¬ ((x0.getD i (0, [])).1 = (x1 + ((ctL (Sh.ct s192) (List.take i x0) : Nat) : Int))) := by simpa using h2
      refine wp_seq ?_
      refine at_regq (T := S_laws_heldGenerationS_tab) [] { ts := [0, 1, 4, 5], os := [] } [] gamOK hT h (by kernel_rfl) trivial ?_
      intro a w h
      refine then_normal ?_
      refine wp_ret ?_
      refine then_ret ?_
      refine in_ret ?_
      refine then_ret ?_
      refine then_ret ?_
      refine in_ret ?_
      refine then_ret ?_
      exact at_return (S := S_laws_heldGenerationS) (x := (x0, x1, ())) ((-1), ()) [] h (by kernel_rfl) trivial (congrArg (fun z => (z, ())) (show ((-1)) = (heldD s101) x0 x1 from by refine (heldD_no (s := s101) (fun e => ?_)).symm; have e2 : (x1 + ((ctL (Sh.ct s192) (List.take i x0) : Nat) : Int)) = (x0.getD i (0, [])).1 := congrArg (fun (y : T192) => y.1) (mkL_get (z := (0, [])) (i := i) e (by omega)); omega))
    · replace h2 : (x0.getD i (0, [])).1 = (x1 + ((ctL (Sh.ct s192) (List.take i x0) : Nat) : Int)) := by simpa using h2
      refine wp_skip ?_
      refine then_normal ?_
      refine wp_seq ?_
      refine at_regq (T := S_laws_heldGenerationS_tab) [{}, { nw := true }] { ts := [0, 1, 4, 5], os := [] } [I64 ((x1 + ((ctL (Sh.ct s192) (List.take i x0) : Nat) : Int)) + 1)] gamOK hT h (by kernel_rfl) ⟨⟨by first | omega | (simp only [List.length_append, List.length_cons, List.length_nil, List.length_set, List.length_take, List.length_drop, List.length_replicate, List.length_map, Nat.min_def]; omega) | (simp; done) | (simp; omega) | done, by first | omega | (simp only [List.length_append, List.length_cons, List.length_nil, List.length_set, List.length_take, List.length_drop, List.length_replicate, List.length_map, Nat.min_def]; omega) | (simp; done) | (simp; omega) | done⟩, trivial⟩ ?_
      intro a w h
      refine then_normal ?_
      refine wp_seq ?_
      refine at_regq (T := S_laws_heldGenerationS_tab) [] { ts := [0, 1, 4, 5], os := [] } [(0 : Int) ≤ ((i : Nat) : Int) ∧ ((i : Nat) : Int) < ((List.length x0 : Nat) : Int), (pMk s185) (x0.getD i (0, [])).2 ((x1 + ((ctL (Sh.ct s192) (List.take i x0) : Nat) : Int)) + 1)] gamOK hT h (by kernel_rfl) ⟨(by refine ⟨?_, ?_⟩ <;> (first | omega | (simp only [List.length_append, List.length_cons, List.length_nil, List.length_set, List.length_take, List.length_drop, List.length_replicate, List.length_map, Nat.min_def]; omega) | (simp; done) | (simp; omega) | done)), (by (first | (show (0 : Int) ≤ _ ∧ _ + ((Sh.ct _ _ : Nat) : Int) ≤ (4611686018427387904 : Int); constructor <;> omega) | (show (0 : Int) ≤ _ ∧ _ + ((Sh.ctT _ _ : Nat) : Int) ≤ (4611686018427387904 : Int); constructor <;> omega))), trivial⟩ ?_
      intro a w h
      refine then_normal ?_
      refine wp_seq ?_
      refine at_regq (T := S_laws_heldGenerationS_tab) [] { ts := [0, 1, 4, 5, 29], os := [] } [] gamOK hT h (by kernel_rfl) trivial ?_
      intro a w h
      refine then_normal ?_
      refine at_test (decide (((heldD s185) (x0.getD i (0, [])).2 ((x1 + ((ctL (Sh.ct s192) (List.take i x0) : Nat) : Int)) + 1)) < 0)) h (by kernel_rfl) (fun h3 => ?_) (fun h3 => ?_)
      · replace h3 : ((heldD s185) (x0.getD i (0, [])).2 ((x1 + ((ctL (Sh.ct s192) (List.take i x0) : Nat) : Int)) + 1)) < 0 := of_decide_eq_true h3
        have hvh3 := heldD_neg (by omega) h3
        refine wp_seq ?_
        refine at_reg (T := S_laws_heldGenerationS_tab) [] { ts := [0, 1, 4, 5], os := [] } ⟨[(0, aF s192 x0), (1, aI ((heldD s185) (x0.getD i (0, [])).2 ((x1 + ((ctL (Sh.ct s192) (List.take i x0) : Nat) : Int)) + 1))), (4, aI (-1)), (5, aI ((i : Nat) : Int))], []⟩ [] gamOK hT h (by kernel_rfl) trivial ?_
        intro a w h
        refine then_normal ?_
        refine wp_ret ?_
        refine in_ret ?_
        refine then_ret ?_
        refine then_ret ?_
        refine in_ret ?_
        refine then_ret ?_
        exact at_return (S := S_laws_heldGenerationS) (x := (x0, x1, ())) ((-1), ()) [] h (by kernel_rfl) trivial (congrArg (fun z => (z, ())) (show ((-1)) = (heldD s101) x0 x1 from by refine (heldD_no (s := s101) (fun e => ?_)).symm; have e2 : Sh.mk s185 (x0.getD i (0, [])).2 ((x1 + ((ctL (Sh.ct s192) (List.take i x0) : Nat) : Int)) + ((1 : Nat) : Int)) = (x0.getD i (0, [])).2 := congrArg (fun (y : T192) => y.2) (mkL_get (z := (0, [])) (i := i) e (by omega)); exact hvh3 ((congrArg (fun k => Sh.mk s185 (x0.getD i (0, [])).2 k) (show (_ : Int) = (x1 + ((ctL (Sh.ct s192) (List.take i x0) : Nat) : Int)) + ((1 : Nat) : Int) from by first | rfl | omega)).trans e2)))
      · replace h3 : ¬ (((heldD s185) (x0.getD i (0, [])).2 ((x1 + ((ctL (Sh.ct s192) (List.take i x0) : Nat) : Int)) + 1)) < 0) := of_decide_eq_false h3
        have hvh3 := heldD_val h3
        refine wp_skip ?_
        refine in_normal ?_
        refine then_normal ?_
        refine at_reg (T := S_laws_heldGenerationS_tab) [{}, { nw := true }] { ts := [0, 1, 4, 5], os := [] } ⟨[(0, aF s192 x0), (1, aI ((heldD s185) (x0.getD i (0, [])).2 ((x1 + ((ctL (Sh.ct s192) (List.take i x0) : Nat) : Int)) + 1))), (4, aI 0), (5, aI (((i : Nat) : Int) + 1))], []⟩ [I64 (((i : Nat) : Int) + 1)] gamOK hT h (by kernel_rfl) ⟨⟨by first | omega | (simp only [List.length_append, List.length_cons, List.length_nil, List.length_set, List.length_take, List.length_drop, List.length_replicate, List.length_map, Nat.min_def]; omega) | (simp; done) | (simp; omega) | done, by first | omega | (simp only [List.length_append, List.length_cons, List.length_nil, List.length_set, List.length_take, List.length_drop, List.length_replicate, List.length_map, Nat.min_def]; omega) | (simp; done) | (simp; omega) | done⟩, trivial⟩ ?_
        intro a w h
        replace h := at_out (σ' := ⟨[(0, aF s192 x0), (1, aI ((heldD s185) (x0.getD i (0, [])).2 ((x1 + ((ctL (Sh.ct s192) (List.take i x0) : Nat) : Int)) + 1))), (4, aI 0), (5, aI (((i : Nat) : Int) + 1))], []⟩) { ts := [0, 1, 4, 5], os := [] } h (by kernel_rfl)
        exact ⟨i + 1, at_eq h (st_congr2 (fun (d0 : Int) (d1 : Int) => (⟨[(0, aF s192 x0), (1, aI d0), (4, aI 0), (5, aI d1)], []⟩ : St)) (show (((heldD s185) (x0.getD i (0, [])).2 ((x1 + ((ctL (Sh.ct s192) (List.take i x0) : Nat) : Int)) + 1)) : Int) = (x1 + ((ctL (Sh.ct s192) (List.take (i + 1) x0) : Nat) : Int)) from by first | rfl | (omega)) (show (((i : Nat) : Int) + 1 : Int) = (((i + 1) : Nat) : Int) from by first | rfl | (omega))), (by exact ⟨by omega, mkL_step (z := (0, [])) (by omega) hok0.2 (Prod.ext (by show ((x1 + ((ctL (Sh.ct s192) (List.take i x0) : Nat) : Int)) : Int) = (x0.getD i (0, [])).1; omega) ((congrArg (fun k => Sh.mk s185 (x0.getD i (0, [])).2 k) (show ((x1 + ((ctL (Sh.ct s192) (List.take i x0) : Nat) : Int)) + ((1 : Nat) : Int) : Int) = _ from by first | rfl | omega)).trans hvh3.1))⟩), (by omega)⟩
  · replace h1 : ¬ (((i : Nat) : Int) < ((List.length x0 : Nat) : Int)) := of_decide_eq_false h1
    refine wp_exit ?_
    refine then_exit ?_
    refine then_exit ?_
    refine in_hit ?_
    refine then_normal ?_
    refine wp_seq ?_
    refine at_reg (T := S_laws_heldGenerationS_tab) [] { ts := [4], os := [] } ⟨[(4, aI (x1 + ((ctL (Sh.ct s192) (List.take i x0) : Nat) : Int)))], []⟩ [] gamOK hT h (by kernel_rfl) trivial ?_
    intro a w h
    refine then_normal ?_
    refine wp_ret ?_
    exact at_return (S := S_laws_heldGenerationS) (x := (x0, x1, ())) ((x1 + ((ctL (Sh.ct s192) (List.take i x0) : Nat) : Int)), ()) [] h (by kernel_rfl) trivial (congrArg (fun z => (z, ())) (show ((x1 + ((ctL (Sh.ct s192) (List.take i x0) : Nat) : Int))) = (heldD s101) x0 x1 from by have e := hok0.2; rw [take_all (by omega)] at e; rw [heldD_pos (s := s101) e, hct0, take_all (by omega)]))

def S_laws_heldSink : Sum := { fid := 73, dom := [s103, (.int 3)], cod := [(.int 3)], dp := true, fz := false, pre := fun x => (pMkT s103) x.1 x.2.1, g := fun x => (((heldDT s103) x.1 x.2.1), ()) }
def S_laws_heldSink_tab : List (Nat × Sum) := [(64, S_laws_heldIntS), (143, S_laws_heldDecoderS), (144, S_laws_heldGenerationS)]
theorem S_laws_heldSink_ok : FnOK Try.prog 73 S_laws_heldSink := by
  refine at_enter 24 (fun x => ⟨[(0, aG [cI x.1.1, cI x.1.2.1, .ro (.int 3) x.1.2.2.1, .ro s189 x.1.2.2.2.1, .ro s192 x.1.2.2.2.2.1, cI x.1.2.2.2.2.2]), (1, aI x.2.1)], []⟩) Try.func73 rfl (by kernel_rfl) (fun x => rfl) ?_
  rintro w0 Z0 ⟨x0, x1, u⟩ a w
  revert x0 x1
  intro (x0 : T103) (x1 : Int) hpre hlens h
  replace h : At w0 Z0 [] 24 ⟨[(0, aG [cI x0.1, cI x0.2.1, .ro (.int 3) x0.2.2.1, .ro s189 x0.2.2.2.1, .ro s192 x0.2.2.2.2.1, cI x0.2.2.2.2.2]), (1, aI x1)], []⟩ a w := h
  replace hpre : (pMkT s103) x0 x1 := hpre
  have hl1 : List.length x0.2.2.1 ≤ 9223372036854775807 := hlens.1.2.2.1.1
  have hl2 : List.length x0.2.2.2.1 ≤ 9223372036854775807 := hlens.1.2.2.2.1.1
  have hl3 : List.length x0.2.2.2.2.1 ≤ 9223372036854775807 := hlens.1.2.2.2.2.1.1
  have hT : TabOK Try.prog S_laws_heldSink_tab := (.cons S_laws_heldIntS_ok (.cons S_laws_heldDecoderS_ok (.cons S_laws_heldGenerationS_ok .nil)))
  have hp : 0 ≤ x1 ∧ x1 + ((Sh.ctT s103 x0 : Nat) : Int) ≤ 4611686018427387904 := hpre
  have hct0 : Sh.ctT s103 x0 = (0 + (0 + ((Sh.ct s34 x0.2.2.1) + ((Sh.ct s100 x0.2.2.2.1) + ((Sh.ct s101 x0.2.2.2.2.1) + 0))))) := rfl
  refine wp_seq ?_
  refine at_regq (T := S_laws_heldSink_tab) [{ ids := [1] }] { ts := [1, 2, 4], os := [1] } [] gamOK hT h (by kernel_rfl) trivial ?_
  intro a w h
  refine then_normal ?_
  refine wp_seq ?_
  refine at_regq (T := S_laws_heldSink_tab) [] { ts := [1, 2, 4], os := [1] } [(pMk s34) x0.2.2.1 x1] gamOK hT h (by kernel_rfl) ⟨(by (first | (show (0 : Int) ≤ _ ∧ _ + ((Sh.ct _ _ : Nat) : Int) ≤ (4611686018427387904 : Int); constructor <;> omega) | (show (0 : Int) ≤ _ ∧ _ + ((Sh.ctT _ _ : Nat) : Int) ≤ (4611686018427387904 : Int); constructor <;> omega))), trivial⟩ ?_
  intro a w h
  refine then_normal ?_
  refine wp_seq ?_
  refine wp_seq ?_
  refine at_regq (T := S_laws_heldSink_tab) [] { ts := [1, 2, 4, 10], os := [1] } [] gamOK hT h (by kernel_rfl) trivial ?_
  intro a w h
  refine then_normal ?_
  refine at_test (decide (((heldD s34) x0.2.2.1 x1) < 0)) h (by kernel_rfl) (fun h1 => ?_) (fun h1 => ?_)
  · replace h1 : ((heldD s34) x0.2.2.1 x1) < 0 := of_decide_eq_true h1
    have hvh1 := heldD_neg (by omega) h1
    refine wp_seq ?_
    refine at_reg (T := S_laws_heldSink_tab) [] { ts := [1, 2, 4], os := [1] } ⟨[(1, aI ((heldD s34) x0.2.2.1 x1)), (2, aP 1 0), (4, aI (-1))], [(1, oX 103 [cI x0.1, cI x0.2.1, .ro (.int 3) x0.2.2.1, .ro s189 x0.2.2.2.1, .ro s192 x0.2.2.2.2.1, cI x0.2.2.2.2.2])]⟩ [] gamOK hT h (by kernel_rfl) trivial ?_
    intro a w h
    refine then_normal ?_
    refine wp_ret ?_
    refine then_ret ?_
    exact at_return (S := S_laws_heldSink) (x := (x0, x1, ())) ((-1), ()) [] h (by kernel_rfl) trivial (congrArg (fun z => (z, ())) (show ((-1)) = (heldDT s103) x0 x1 from by refine (heldDT_no (s := s103) (fun e => ?_)).symm; have e2 : Sh.mk s34 x0.2.2.1 (x1 + ((0 : Nat) : Int) + ((0 : Nat) : Int)) = x0.2.2.1 := (congrArg (fun (y : T103) => y.2.2.1) e); exact hvh1 ((congrArg (fun k => Sh.mk s34 x0.2.2.1 k) (show (_ : Int) = x1 + ((0 : Nat) : Int) + ((0 : Nat) : Int) from by first | rfl | omega)).trans e2)))
  · replace h1 : ¬ (((heldD s34) x0.2.2.1 x1) < 0) := of_decide_eq_false h1
    have hvh1 := heldD_val h1
    refine wp_skip ?_
    refine then_normal ?_
    refine wp_seq ?_
    refine at_reg (T := S_laws_heldSink_tab) [] { ts := [1, 2, 4], os := [1] } ⟨[(1, aI ((heldD s100) x0.2.2.2.1 ((heldD s34) x0.2.2.1 x1))), (2, aP 1 0), (4, aI 0)], [(1, oX 103 [cI x0.1, cI x0.2.1, .ro (.int 3) x0.2.2.1, .ro s189 x0.2.2.2.1, .ro s192 x0.2.2.2.2.1, cI x0.2.2.2.2.2])]⟩ [(pMk s100) x0.2.2.2.1 ((heldD s34) x0.2.2.1 x1)] gamOK hT h (by kernel_rfl) ⟨(by (first | (show (0 : Int) ≤ _ ∧ _ + ((Sh.ct _ _ : Nat) : Int) ≤ (4611686018427387904 : Int); constructor <;> omega) | (show (0 : Int) ≤ _ ∧ _ + ((Sh.ctT _ _ : Nat) : Int) ≤ (4611686018427387904 : Int); constructor <;> omega))), trivial⟩ ?_
    intro a w h
    refine then_normal ?_
    refine wp_seq ?_
    refine wp_seq ?_
    refine at_regq (T := S_laws_heldSink_tab) [] { ts := [1, 2, 4, 16], os := [1] } [] gamOK hT h (by kernel_rfl) trivial ?_
    intro a w h
    refine then_normal ?_
    refine at_test (decide (((heldD s100) x0.2.2.2.1 ((heldD s34) x0.2.2.1 x1)) < 0)) h (by kernel_rfl) (fun h2 => ?_) (fun h2 => ?_)
    · replace h2 : ((heldD s100) x0.2.2.2.1 ((heldD s34) x0.2.2.1 x1)) < 0 := of_decide_eq_true h2
      have hvh2 := heldD_neg (by omega) h2
      refine wp_seq ?_
      refine at_regq (T := S_laws_heldSink_tab) [] { ts := [1, 2, 4], os := [1] } [] gamOK hT h (by kernel_rfl) trivial ?_
      intro a w h
      refine then_normal ?_
      refine wp_ret ?_
      refine then_ret ?_
      exact at_return (S := S_laws_heldSink) (x := (x0, x1, ())) ((-1), ()) [] h (by kernel_rfl) trivial (congrArg (fun z => (z, ())) (show ((-1)) = (heldDT s103) x0 x1 from by refine (heldDT_no (s := s103) (fun e => ?_)).symm; have e2 : Sh.mk s100 x0.2.2.2.1 (x1 + ((0 : Nat) : Int) + ((0 : Nat) : Int) + (((Sh.ct s34 x0.2.2.1) : Nat) : Int)) = x0.2.2.2.1 := (congrArg (fun (y : T103) => y.2.2.2.1) e); exact hvh2 ((congrArg (fun k => Sh.mk s100 x0.2.2.2.1 k) (show (_ : Int) = x1 + ((0 : Nat) : Int) + ((0 : Nat) : Int) + (((Sh.ct s34 x0.2.2.1) : Nat) : Int) from by first | rfl | omega)).trans e2)))
    · replace h2 : ¬ (((heldD s100) x0.2.2.2.1 ((heldD s34) x0.2.2.1 x1)) < 0) := of_decide_eq_false h2
      have hvh2 := heldD_val h2
      refine wp_skip ?_
      refine then_normal ?_
      refine wp_seq ?_
      refine at_regq (T := S_laws_heldSink_tab) [] { ts := [1, 4], os := [] } [(pMk s101) x0.2.2.2.2.1 ((heldD s100) x0.2.2.2.1 ((heldD s34) x0.2.2.1 x1))] gamOK hT h (by kernel_rfl) ⟨(by (first | (show (0 : Int) ≤ _ ∧ _ + ((Sh.ct _ _ : Nat) : Int) ≤ (4611686018427387904 : Int); constructor <;> omega) | (show (0 : Int) ≤ _ ∧ _ + ((Sh.ctT _ _ : Nat) : Int) ≤ (4611686018427387904 : Int); constructor <;> omega))), trivial⟩ ?_
      intro a w h
      refine then_normal ?_
      refine wp_seq ?_
      refine wp_seq ?_
      refine at_regq (T := S_laws_heldSink_tab) [] { ts := [1, 4, 22], os := [] } [] gamOK hT h (by kernel_rfl) trivial ?_
      intro a w h
      refine then_normal ?_
      refine at_test (decide (((heldD s101) x0.2.2.2.2.1 ((heldD s100) x0.2.2.2.1 ((heldD s34) x0.2.2.1 x1))) < 0)) h (by kernel_rfl) (fun h3 => ?_) (fun h3 => ?_)
      · replace h3 : ((heldD s101) x0.2.2.2.2.1 ((heldD s100) x0.2.2.2.1 ((heldD s34) x0.2.2.1 x1))) < 0 := of_decide_eq_true h3
        have hvh3 := heldD_neg (by omega) h3
        refine wp_seq ?_
        refine at_reg (T := S_laws_heldSink_tab) [] { ts := [1, 4], os := [] } ⟨[(1, aI ((heldD s101) x0.2.2.2.2.1 ((heldD s100) x0.2.2.2.1 ((heldD s34) x0.2.2.1 x1)))), (4, aI (-1))], []⟩ [] gamOK hT h (by kernel_rfl) trivial ?_
        intro a w h
        refine then_normal ?_
        refine wp_ret ?_
        refine then_ret ?_
        exact at_return (S := S_laws_heldSink) (x := (x0, x1, ())) ((-1), ()) [] h (by kernel_rfl) trivial (congrArg (fun z => (z, ())) (show ((-1)) = (heldDT s103) x0 x1 from by refine (heldDT_no (s := s103) (fun e => ?_)).symm; have e2 : Sh.mk s101 x0.2.2.2.2.1 (x1 + ((0 : Nat) : Int) + ((0 : Nat) : Int) + (((Sh.ct s34 x0.2.2.1) : Nat) : Int) + (((Sh.ct s100 x0.2.2.2.1) : Nat) : Int)) = x0.2.2.2.2.1 := (congrArg (fun (y : T103) => y.2.2.2.2.1) e); exact hvh3 ((congrArg (fun k => Sh.mk s101 x0.2.2.2.2.1 k) (show (_ : Int) = x1 + ((0 : Nat) : Int) + ((0 : Nat) : Int) + (((Sh.ct s34 x0.2.2.1) : Nat) : Int) + (((Sh.ct s100 x0.2.2.2.1) : Nat) : Int) from by first | rfl | omega)).trans e2)))
      · replace h3 : ¬ (((heldD s101) x0.2.2.2.2.1 ((heldD s100) x0.2.2.2.1 ((heldD s34) x0.2.2.1 x1))) < 0) := of_decide_eq_false h3
        have hvh3 := heldD_val h3
        refine wp_skip ?_
        refine then_normal ?_
        refine wp_seq ?_
        refine at_reg (T := S_laws_heldSink_tab) [] { ts := [4], os := [] } ⟨[(4, aI ((heldD s101) x0.2.2.2.2.1 ((heldD s100) x0.2.2.2.1 ((heldD s34) x0.2.2.1 x1))))], []⟩ [] gamOK hT h (by kernel_rfl) trivial ?_
        intro a w h
        refine then_normal ?_
        refine wp_ret ?_
        exact at_return (S := S_laws_heldSink) (x := (x0, x1, ())) (((heldD s101) x0.2.2.2.2.1 ((heldD s100) x0.2.2.2.1 ((heldD s34) x0.2.2.1 x1))), ()) [] h (by kernel_rfl) trivial (congrArg (fun z => (z, ())) (show (((heldD s101) x0.2.2.2.2.1 ((heldD s100) x0.2.2.2.1 ((heldD s34) x0.2.2.1 x1)))) = (heldDT s103) x0 x1 from by rw [heldDT_pos (s := s103) (show Sh.mkT s103 x0 x1 = x0 from (Prod.ext rfl (Prod.ext rfl (Prod.ext ((congrArg (fun k => Sh.mk s34 x0.2.2.1 k) (show (x1 + ((0 : Nat) : Int) + ((0 : Nat) : Int) : Int) = _ from by first | rfl | omega)).trans hvh1.1) (Prod.ext ((congrArg (fun k => Sh.mk s100 x0.2.2.2.1 k) (show (x1 + ((0 : Nat) : Int) + ((0 : Nat) : Int) + (((Sh.ct s34 x0.2.2.1) : Nat) : Int) : Int) = _ from by first | rfl | omega)).trans hvh2.1) (Prod.ext ((congrArg (fun k => Sh.mk s101 x0.2.2.2.2.1 k) (show (x1 + ((0 : Nat) : Int) + ((0 : Nat) : Int) + (((Sh.ct s34 x0.2.2.1) : Nat) : Int) + (((Sh.ct s100 x0.2.2.2.1) : Nat) : Int) : Int) = _ from by first | rfl | omega)).trans hvh3.1) rfl))))))]; omega))

def S_laws_markIntS : Sum := { fid := 37, dom := [s34, (.int 3)], cod := [(.int 3)], dp := true, fz := false, pre := fun x => (pMk s34) x.1 x.2.1, g := fun x => (((mkK s34) x.1 x.2.1), ()), kinds := [.io, .rd], upd := fun x => ((Sh.mk s34) x.1 x.2.1, (x.2.1, ())) }
def S_laws_markIntS_tab : List (Nat × Sum) := []
theorem S_laws_markIntS_ok : FnOK Try.prog 37 S_laws_markIntS := by
  refine at_enterI 19 [1] [2] (fun us x => ⟨[(0, aS 1), (1, aI x.2.1)], [(1, oR (.int 3) x.1), (2, oP 1 (S_laws_markIntS.hd us 0))]⟩) Try.func37 rfl (by kernel_rfl) (fun us x => rfl) ?_
  rintro w0 Z0 us ⟨x0, x1, u⟩ L a w
  revert x0 x1
  intro (x0 : (List Int)) (x1 : Int) hio hpre hlens h
  replace h : At w0 Z0 L 19 ⟨[(0, aS 1), (1, aI x1)], [(1, oR (.int 3) x0), (2, oP 1 (S_laws_markIntS.hd us 0))]⟩ a w := h
  replace hpre : (pMk s34) x0 x1 := hpre
  have hl1 : List.length x0 ≤ 9223372036854775807 := hlens.1.1
  have hT : TabOK Try.prog S_laws_markIntS_tab := .nil
  have hp : 0 ≤ x1 ∧ x1 + ((Sh.ct s34 x0 : Nat) : Int) ≤ 4611686018427387904 := hpre
  have hct0 : Sh.ct s34 x0 = ctL (Sh.ct (.int 3)) x0 := rfl
  refine wp_seq ?_
  refine at_regq (T := S_laws_markIntS_tab) [] { ts := [0, 1, 4], os := [1, 2] } [] gamOK hT h (by kernel_rfl) trivial ?_
  intro a w h
  refine then_normal ?_
  refine wp_seq ?_
  refine wp_seq ?_
  refine at_regq (T := S_laws_markIntS_tab) [] { ts := [0, 1, 4, 5], os := [1, 2] } [] gamOK hT h (by kernel_rfl) trivial ?_
  intro a w h
  refine then_normal ?_
  refine wp_block ?_
  replace h := at_out (σ' := ⟨[(0, aS 1), (1, aI x1), (4, aI 0), (5, aI 0)], [(1, oR (.int 3) x0), (2, oP 1 (S_laws_markIntS.hd us 0))]⟩) { ts := [0, 1, 4, 5], os := [1, 2] } h (by kernel_rfl)
  refine at_loop (fun i : Nat => (⟨[(0, aS 1), (1, aI (x1 + ((ctL (Sh.ct (.int 3)) (List.take i x0) : Nat) : Int))), (4, aI 0), (5, aI ((i : Nat) : Int))], [(1, oR (.int 3) (mkAt (Sh.mk (.int 3)) (Sh.ct (.int 3)) x1 x0 i)), (2, oP 1 (S_laws_markIntS.hd us 0))]⟩ : St)) (fun i => i ≤ List.length x0) (fun i => List.length x0 - i) (0) h (st_congr3 (fun (d0 : List Int) (d1 : Int) (d2 : Int) => (⟨[(0, aS 1), (1, aI d1), (4, aI 0), (5, aI d2)], [(1, oR (.int 3) d0), (2, oP 1 (S_laws_markIntS.hd us 0))]⟩ : St)) (show (x0 : List Int) = (mkAt (Sh.mk (.int 3)) (Sh.ct (.int 3)) x1 x0 (0)) from by first | rfl | (first | exact mkAt_zero.symm | simp [ctL])) (show (x1 : Int) = (x1 + ((ctL (Sh.ct (.int 3)) (List.take (0) x0) : Nat) : Int)) from by first | rfl | (first | exact mkAt_zero.symm | simp [ctL])) (show (0 : Int) = (((0) : Nat) : Int) from by first | rfl | (first | exact mkAt_zero.symm | simp [ctL]))) (by omega) ?_
  intro i a w hok0 h
  refine wp_seq ?_
  refine wp_seq ?_
  refine at_regq (T := S_laws_markIntS_tab) [] { ts := [0, 1, 4, 5, 9], os := [1, 2] } [] gamOK hT h (by kernel_rfl) trivial ?_
  intro a w h
  refine then_normal ?_
  refine at_test (decide (((i : Nat) : Int) < ((List.length (mkAt (Sh.mk (.int 3)) (Sh.ct (.int 3)) x1 x0 i) : Nat) : Int))) h (by kernel_rfl) (fun h1 => ?_) (fun h1 => ?_)
  · replace h1 : ((i : Nat) : Int) < ((List.length (mkAt (Sh.mk (.int 3)) (Sh.ct (.int 3)) x1 x0 i) : Nat) : Int) := of_decide_eq_true h1
    have hml : List.length (mkAt (Sh.mk (.int 3)) (Sh.ct (.int 3)) x1 x0 i) = List.length x0 := mkAt_len
    rw [hml] at h1
    have hat := ctL_at_le (c := Sh.ct (.int 3)) (xs := x0) (z := 0) (i := i) (by omega)
    have hsu := ctL_take_succ (c := Sh.ct (.int 3)) (xs := x0) (z := 0) (i := i) (by omega)
    have hci : Sh.ct (.int 3) (x0.getD i 0) = 1 := rfl
    have hge : List.getD (mkAt (Sh.mk (.int 3)) (Sh.ct (.int 3)) x1 x0 i) i 0 = (x0.getD i 0) := mkAt_get (by omega)
    refine wp_skip ?_
    refine then_normal ?_
    refine wp_seq ?_
    refine wp_block ?_
    refine wp_seq ?_
    refine at_reg (T := S_laws_markIntS_tab) [] { ts := [0, 1, 4, 5], os := [1, 2] } ⟨[(0, aS 1), (1, aI (x1 + ((ctL (Sh.ct (.int 3)) (List.take i x0) : Nat) : Int))), (4, aI 0), (5, aI ((i : Nat) : Int))], [(1, oR (.int 3) (List.set (mkAt (Sh.mk (.int 3)) (Sh.ct (.int 3)) x1 x0 i) i (x1 + ((ctL (Sh.ct (.int 3)) (List.take i x0) : Nat) : Int)))), (2, oP 1 (S_laws_markIntS.hd us 0))]⟩ [(0 : Int) ≤ ((i : Nat) : Int) ∧ ((i : Nat) : Int) < ((List.length (mkAt (Sh.mk (.int 3)) (Sh.ct (.int 3)) x1 x0 i) : Nat) : Int), i < List.length (mkAt (Sh.mk (.int 3)) (Sh.ct (.int 3)) x1 x0 i)] gamOK hT h (by kernel_rfl) ⟨(by refine ⟨?_, ?_⟩ <;> (first | omega | ((try simp only [hge, mkK]); omega) | (simp only [List.length_append, List.length_cons, List.length_nil, List.length_set, List.length_take, List.length_drop, List.length_replicate, List.length_map, Nat.min_def, mkAt_len]; omega) | (simp; done) | (simp; omega))), (by first | omega | ((try simp only [hge, mkK]); omega) | (simp only [List.length_append, List.length_cons, List.length_nil, List.length_set, List.length_take, List.length_drop, List.length_replicate, List.length_map, Nat.min_def, mkAt_len]; omega) | (simp; done) | (simp; omega)), trivial⟩ ?_
    intro a w h
    refine then_normal ?_
    refine at_regq (T := S_laws_markIntS_tab) [{}, { nw := true }] { ts := [0, 1, 4, 5], os := [1, 2] } [I64 ((x1 + ((ctL (Sh.ct (.int 3)) (List.take i x0) : Nat) : Int)) + 1)] gamOK hT h (by kernel_rfl) ⟨⟨by first | omega | ((try simp only [hge, mkK]); omega) | (simp only [List.length_append, List.length_cons, List.length_nil, List.length_set, List.length_take, List.length_drop, List.length_replicate, List.length_map, Nat.min_def, mkAt_len]; omega) | (simp; done) | (simp; omega), by first | omega | ((try simp only [hge, mkK]); omega) | (simp only [List.length_append, List.length_cons, List.length_nil, List.length_set, List.length_take, List.length_drop, List.length_replicate, List.length_map, Nat.min_def, mkAt_len]; omega) | (simp; done) | (simp; omega)⟩, trivial⟩ ?_
    intro a w h
    refine in_normal ?_
    refine then_normal ?_
    refine at_regq (T := S_laws_markIntS_tab) [{}, { nw := true }] { ts := [0, 1, 4, 5], os := [1, 2] } [I64 (((i : Nat) : Int) + 1)] gamOK hT h (by kernel_rfl) ⟨⟨by first | omega | ((try simp only [hge, mkK]); omega) | (simp only [List.length_append, List.length_cons, List.length_nil, List.length_set, List.length_take, List.length_drop, List.length_replicate, List.length_map, Nat.min_def, mkAt_len]; omega) | (simp; done) | (simp; omega), by first | omega | ((try simp only [hge, mkK]); omega) | (simp only [List.length_append, List.length_cons, List.length_nil, List.length_set, List.length_take, List.length_drop, List.length_replicate, List.length_map, Nat.min_def, mkAt_len]; omega) | (simp; done) | (simp; omega)⟩, trivial⟩ ?_
    intro a w h
    replace h := at_out (σ' := ⟨[(0, aS 1), (1, aI ((x1 + ((ctL (Sh.ct (.int 3)) (List.take i x0) : Nat) : Int)) + 1)), (4, aI 0), (5, aI (((i : Nat) : Int) + 1))], [(1, oR (.int 3) (List.set (mkAt (Sh.mk (.int 3)) (Sh.ct (.int 3)) x1 x0 i) i (x1 + ((ctL (Sh.ct (.int 3)) (List.take i x0) : Nat) : Int)))), (2, oP 1 (S_laws_markIntS.hd us 0))]⟩) { ts := [0, 1, 4, 5], os := [1, 2] } h (by kernel_rfl)
    skip
    exact ⟨i + 1, at_eq h (st_congr3 (fun (d0 : List Int) (d1 : Int) (d2 : Int) => (⟨[(0, aS 1), (1, aI d1), (4, aI 0), (5, aI d2)], [(1, oR (.int 3) d0), (2, oP 1 (S_laws_markIntS.hd us 0))]⟩ : St)) (show ((List.set (mkAt (Sh.mk (.int 3)) (Sh.ct (.int 3)) x1 x0 i) i (x1 + ((ctL (Sh.ct (.int 3)) (List.take i x0) : Nat) : Int))) : List Int) = (mkAt (Sh.mk (.int 3)) (Sh.ct (.int 3)) x1 x0 (i + 1)) from by first | rfl | (refine mkAt_set' (z := 0) (by omega) ?_; first | (simp only [hge, mkK]; done) | ((try simp only [hge, mkK]); show _ = Sh.mk (.int 3) (x0.getD i 0) _; exact (by show (_ : Int) = _; first | rfl | omega)))) (show ((x1 + ((ctL (Sh.ct (.int 3)) (List.take i x0) : Nat) : Int)) + 1 : Int) = (x1 + ((ctL (Sh.ct (.int 3)) (List.take (i + 1) x0) : Nat) : Int)) from by first | rfl | (((try simp only [hge, mkK]); omega))) (show (((i : Nat) : Int) + 1 : Int) = (((i + 1) : Nat) : Int) from by first | rfl | (omega))), (by first | omega | (refine ⟨?_, ?_⟩ <;> omega)), (by omega)⟩
  · replace h1 : ¬ (((i : Nat) : Int) < ((List.length (mkAt (Sh.mk (.int 3)) (Sh.ct (.int 3)) x1 x0 i) : Nat) : Int)) := of_decide_eq_false h1
    have hml : List.length (mkAt (Sh.mk (.int 3)) (Sh.ct (.int 3)) x1 x0 i) = List.length x0 := mkAt_len
    rw [hml] at h1
    refine wp_exit ?_
    refine then_exit ?_
    refine then_exit ?_
    refine in_hit ?_
    refine then_normal ?_
    refine wp_seq ?_
    refine at_reg (T := S_laws_markIntS_tab) [] { ts := [4], os := [1, 2] } ⟨[(4, aI (x1 + ((ctL (Sh.ct (.int 3)) (List.take i x0) : Nat) : Int)))], [(1, oR (.int 3) (mkAt (Sh.mk (.int 3)) (Sh.ct (.int 3)) x1 x0 i)), (2, oP 1 (S_laws_markIntS.hd us 0))]⟩ [] gamOK hT h (by kernel_rfl) trivial ?_
    intro a w h
    refine then_normal ?_
    refine wp_ret ?_
    exact at_returnI (S := S_laws_markIntS) (x := (x0, x1, ())) [1] [2] ((mkAt (Sh.mk (.int 3)) (Sh.ct (.int 3)) x1 x0 i), (x1, ())) (some ((x1 + ((ctL (Sh.ct (.int 3)) (List.take i x0) : Nat) : Int)), ())) [S_laws_markIntS.hd us 0 = S_laws_markIntS.hd us 0] hio h (by kernel_rfl) ⟨rfl, trivial⟩ (by first | rfl | (show ((mkAt (Sh.mk (.int 3)) (Sh.ct (.int 3)) x1 x0 i), (x1, ())) = ((Sh.mk s34) x0 x1, (x1, ())); rw [show ((mkAt (Sh.mk (.int 3)) (Sh.ct (.int 3)) x1 x0 i) : (List Int)) = (Sh.mk s34) x0 x1 from by exact mkAt_all (by omega)])) (fun z e => (Option.some.inj e) ▸ (congrArg (fun z => (z, ())) (show ((x1 + ((ctL (Sh.ct (.int 3)) (List.take i x0) : Nat) : Int))) = (mkK s34) x0 x1 from by (unfold mkK; rw [take_all (by omega)]; rfl))))

def S_laws_markIntSS : Sum := { fid := 178, dom := [s185, (.int 3)], cod := [(.int 3)], dp := true, fz := false, pre := fun x => (pMk s185) x.1 x.2.1, g := fun x => (((mkK s185) x.1 x.2.1), ()), kinds := [.io, .rd], upd := fun x => ((Sh.mk s185) x.1 x.2.1, (x.2.1, ())) }
def S_laws_markIntSS_tab : List (Nat × Sum) := [(37, S_laws_markIntS)]
theorem S_laws_markIntSS_ok : FnOK Try.prog 178 S_laws_markIntSS := by
  refine at_enterI 19 [1] [2] (fun us x => ⟨[(0, aS 1), (1, aI x.2.1)], [(1, oR s34 x.1), (2, oP 1 (S_laws_markIntSS.hd us 0))]⟩) Try.func178 rfl (by kernel_rfl) (fun us x => rfl) ?_
  rintro w0 Z0 us ⟨x0, x1, u⟩ L a w
  revert x0 x1
  intro (x0 : (List (List Int))) (x1 : Int) hio hpre hlens h
  replace h : At w0 Z0 L 19 ⟨[(0, aS 1), (1, aI x1)], [(1, oR s34 x0), (2, oP 1 (S_laws_markIntSS.hd us 0))]⟩ a w := h
  replace hpre : (pMk s185) x0 x1 := hpre
  have hl1 : List.length x0 ≤ 9223372036854775807 := hlens.1.1
  have hT : TabOK Try.prog S_laws_markIntSS_tab := (.cons S_laws_markIntS_ok .nil)
  have hp : 0 ≤ x1 ∧ x1 + ((Sh.ct s185 x0 : Nat) : Int) ≤ 4611686018427387904 := hpre
  have hct0 : Sh.ct s185 x0 = ctL (Sh.ct s34) x0 := rfl
  refine wp_seq ?_
  refine at_regq (T := S_laws_markIntSS_tab) [] { ts := [0, 1, 4], os := [1, 2] } [] gamOK hT h (by kernel_rfl) trivial ?_
  intro a w h
  refine then_normal ?_
  refine wp_seq ?_
  refine wp_seq ?_
  refine at_regq (T := S_laws_markIntSS_tab) [] { ts := [0, 1, 4, 5], os := [1, 2] } [] gamOK hT h (by kernel_rfl) trivial ?_
  intro a w h
  refine then_normal ?_
  refine wp_block ?_
  replace h := at_out (σ' := ⟨[(0, aS 1), (1, aI x1), (4, aI 0), (5, aI 0)], [(1, oR s34 x0), (2, oP 1 (S_laws_markIntSS.hd us 0))]⟩) { ts := [0, 1, 4, 5], os := [1, 2] } h (by kernel_rfl)
  refine at_loop (fun i : Nat => (⟨[(0, aS 1), (1, aI (x1 + ((ctL (Sh.ct s34) (List.take i x0) : Nat) : Int))), (4, aI 0), (5, aI ((i : Nat) : Int))], [(1, oR s34 (mkAt (Sh.mk s34) (Sh.ct s34) x1 x0 i)), (2, oP 1 (S_laws_markIntSS.hd us 0))]⟩ : St)) (fun i => i ≤ List.length x0) (fun i => List.length x0 - i) (0) h (st_congr3 (fun (d0 : List (List Int)) (d1 : Int) (d2 : Int) => (⟨[(0, aS 1), (1, aI d1), (4, aI 0), (5, aI d2)], [(1, oR s34 d0), (2, oP 1 (S_laws_markIntSS.hd us 0))]⟩ : St)) (show (x0 : List (List Int)) = (mkAt (Sh.mk s34) (Sh.ct s34) x1 x0 (0)) from by first | rfl | (first | exact mkAt_zero.symm | simp [ctL])) (show (x1 : Int) = (x1 + ((ctL (Sh.ct s34) (List.take (0) x0) : Nat) : Int)) from by first | rfl | (first | exact mkAt_zero.symm | simp [ctL])) (show (0 : Int) = (((0) : Nat) : Int) from by first | rfl | (first | exact mkAt_zero.symm | simp [ctL]))) (by omega) ?_
  intro i a w hok0 h
  refine wp_seq ?_
  refine wp_seq ?_
  refine at_regq (T := S_laws_markIntSS_tab) [] { ts := [0, 1, 4, 5, 9], os := [1, 2] } [] gamOK hT h (by kernel_rfl) trivial ?_
  intro a w h
  refine then_normal ?_
  refine at_test (decide (((i : Nat) : Int) < ((List.length (mkAt (Sh.mk s34) (Sh.ct s34) x1 x0 i) : Nat) : Int))) h (by kernel_rfl) (fun h1 => ?_) (fun h1 => ?_)
  · replace h1 : ((i : Nat) : Int) < ((List.length (mkAt (Sh.mk s34) (Sh.ct s34) x1 x0 i) : Nat) : Int) := of_decide_eq_true h1
    have hml : List.length (mkAt (Sh.mk s34) (Sh.ct s34) x1 x0 i) = List.length x0 := mkAt_len
    rw [hml] at h1
    have hat := ctL_at_le (c := Sh.ct s34) (xs := x0) (z := []) (i := i) (by omega)
    have hsu := ctL_take_succ (c := Sh.ct s34) (xs := x0) (z := []) (i := i) (by omega)
    have hci : Sh.ct s34 (x0.getD i []) = (Sh.ct s34 (x0.getD i [])) := rfl
    have hge : List.getD (mkAt (Sh.mk s34) (Sh.ct s34) x1 x0 i) i [] = (x0.getD i []) := mkAt_get (by omega)
    refine wp_skip ?_
    refine then_normal ?_
    refine wp_seq ?_
    refine wp_block ?_
    replace h := at_open (σ' := ⟨[(0, aS 1), (1, aI (x1 + ((ctL (Sh.ct s34) (List.take i x0) : Nat) : Int))), (4, aI 0), (5, aI ((i : Nat) : Int)), (9, aB (decide (((i : Nat) : Int) < ((List.length (mkAt (Sh.mk s34) (Sh.ct s34) x1 x0 i) : Nat) : Int))))], [(1, some (.op s34 (mkAt (Sh.mk s34) (Sh.ct s34) x1 x0 i) i [.sl 3])), (2, oP 1 (S_laws_markIntSS.hd us 0)), (3, oR (.int 3) ((mkAt (Sh.mk s34) (Sh.ct s34) x1 x0 i).getD i []))]⟩) (ps := [i < List.length (mkAt (Sh.mk s34) (Sh.ct s34) x1 x0 i)]) 1 i [3] { ts := [0, 1, 4, 5, 9], os := [1, 2, 3] } h (by kernel_rfl) ⟨(by first | omega | ((try simp only [hge, mkK]); omega) | (simp only [List.length_append, List.length_cons, List.length_nil, List.length_set, List.length_take, List.length_drop, List.length_replicate, List.length_map, Nat.min_def, mkAt_len]; omega) | (simp; done) | (simp; omega)), trivial⟩
    refine at_reg (T := S_laws_markIntSS_tab) [] { ts := [0, 1, 4, 5], os := [1, 2, 3] } ⟨[(0, aS 1), (1, aI ((mkK s34) ((mkAt (Sh.mk s34) (Sh.ct s34) x1 x0 i).getD i []) (x1 + ((ctL (Sh.ct s34) (List.take i x0) : Nat) : Int)))), (4, aI 0), (5, aI ((i : Nat) : Int))], [(1, some (.op s34 (mkAt (Sh.mk s34) (Sh.ct s34) x1 x0 i) i [.sl 3])), (2, oP 1 (S_laws_markIntSS.hd us 0)), (3, oR (.int 3) ((Sh.mk s34) ((mkAt (Sh.mk s34) (Sh.ct s34) x1 x0 i).getD i []) (x1 + ((ctL (Sh.ct s34) (List.take i x0) : Nat) : Int))))]⟩ [(0 : Int) ≤ ((i : Nat) : Int) ∧ ((i : Nat) : Int) < ((List.length (mkAt (Sh.mk s34) (Sh.ct s34) x1 x0 i) : Nat) : Int), i = i, (pMk s34) ((mkAt (Sh.mk s34) (Sh.ct s34) x1 x0 i).getD i []) (x1 + ((ctL (Sh.ct s34) (List.take i x0) : Nat) : Int))] gamOK hT h (by kernel_rfl) ⟨(by refine ⟨?_, ?_⟩ <;> (first | omega | ((try simp only [hge, mkK]); omega) | (simp only [List.length_append, List.length_cons, List.length_nil, List.length_set, List.length_take, List.length_drop, List.length_replicate, List.length_map, Nat.min_def, mkAt_len]; omega) | (simp; done) | (simp; omega))), rfl, (by (show (0 : Int) ≤ _ ∧ _ + ((Sh.ct _ _ : Nat) : Int) ≤ (4611686018427387904 : Int); (try simp only [hge, mkK]); constructor <;> omega)), trivial⟩ ?_
    intro a w h
    refine in_normal ?_
    refine then_normal ?_
    refine at_regq (T := S_laws_markIntSS_tab) [{}, { nw := true }] { ts := [0, 1, 4, 5], os := [1, 2, 3] } [I64 (((i : Nat) : Int) + 1)] gamOK hT h (by kernel_rfl) ⟨⟨by first | omega | ((try simp only [hge, mkK]); omega) | (simp only [List.length_append, List.length_cons, List.length_nil, List.length_set, List.length_take, List.length_drop, List.length_replicate, List.length_map, Nat.min_def, mkAt_len]; omega) | (simp; done) | (simp; omega), by first | omega | ((try simp only [hge, mkK]); omega) | (simp only [List.length_append, List.length_cons, List.length_nil, List.length_set, List.length_take, List.length_drop, List.length_replicate, List.length_map, Nat.min_def, mkAt_len]; omega) | (simp; done) | (simp; omega)⟩, trivial⟩ ?_
    intro a w h
    replace h := at_shut (σ' := ⟨[(0, aS 1), (1, aI ((mkK s34) ((mkAt (Sh.mk s34) (Sh.ct s34) x1 x0 i).getD i []) (x1 + ((ctL (Sh.ct s34) (List.take i x0) : Nat) : Int)))), (4, aI 0), (5, aI (((i : Nat) : Int) + 1))], [(1, oR s34 (List.set (mkAt (Sh.mk s34) (Sh.ct s34) x1 x0 i) i ((Sh.mk s34) ((mkAt (Sh.mk s34) (Sh.ct s34) x1 x0 i).getD i []) (x1 + ((ctL (Sh.ct s34) (List.take i x0) : Nat) : Int))))), (2, oP 1 (S_laws_markIntSS.hd us 0))]⟩) (ps := []) 1 { ts := [0, 1, 4, 5], os := [1, 2] } h (by kernel_rfl) trivial
    replace h := at_out (σ' := ⟨[(0, aS 1), (1, aI ((mkK s34) ((mkAt (Sh.mk s34) (Sh.ct s34) x1 x0 i).getD i []) (x1 + ((ctL (Sh.ct s34) (List.take i x0) : Nat) : Int)))), (4, aI 0), (5, aI (((i : Nat) : Int) + 1))], [(1, oR s34 (List.set (mkAt (Sh.mk s34) (Sh.ct s34) x1 x0 i) i ((Sh.mk s34) ((mkAt (Sh.mk s34) (Sh.ct s34) x1 x0 i).getD i []) (x1 + ((ctL (Sh.ct s34) (List.take i x0) : Nat) : Int))))), (2, oP 1 (S_laws_markIntSS.hd us 0))]⟩) { ts := [0, 1, 4, 5], os := [1, 2] } h (by kernel_rfl)
    skip
    exact ⟨i + 1, at_eq h (st_congr3 (fun (d0 : List (List Int)) (d1 : Int) (d2 : Int) => (⟨[(0, aS 1), (1, aI d1), (4, aI 0), (5, aI d2)], [(1, oR s34 d0), (2, oP 1 (S_laws_markIntSS.hd us 0))]⟩ : St)) (show ((List.set (mkAt (Sh.mk s34) (Sh.ct s34) x1 x0 i) i ((Sh.mk s34) ((mkAt (Sh.mk s34) (Sh.ct s34) x1 x0 i).getD i []) (x1 + ((ctL (Sh.ct s34) (List.take i x0) : Nat) : Int)))) : List (List Int)) = (mkAt (Sh.mk s34) (Sh.ct s34) x1 x0 (i + 1)) from by first | rfl | (refine mkAt_set' (z := []) (by omega) ?_; first | (simp only [hge, mkK]; done) | ((try simp only [hge, mkK]); show _ = Sh.mk s34 (x0.getD i []) _; exact (congrArg (fun k => Sh.mk s34 (x0.getD i []) k) (by first | rfl | omega))))) (show (((mkK s34) ((mkAt (Sh.mk s34) (Sh.ct s34) x1 x0 i).getD i []) (x1 + ((ctL (Sh.ct s34) (List.take i x0) : Nat) : Int))) : Int) = (x1 + ((ctL (Sh.ct s34) (List.take (i + 1) x0) : Nat) : Int)) from by first | rfl | (((try simp only [hge, mkK]); omega))) (show (((i : Nat) : Int) + 1 : Int) = (((i + 1) : Nat) : Int) from by first | rfl | (omega))), (by first | omega | (refine ⟨?_, ?_⟩ <;> omega)), (by omega)⟩
  · replace h1 : ¬ (((i : Nat) : Int) < ((List.length (mkAt (Sh.mk s34) (Sh.ct s34) x1 x0 i) : Nat) : Int)) := of_decide_eq_false h1
    have hml : List.length (mkAt (Sh.mk s34) (Sh.ct s34) x1 x0 i) = List.length x0 := mkAt_len
    rw [hml] at h1
    refine wp_exit ?_
    refine then_exit ?_
    refine then_exit ?_
    refine in_hit ?_
    refine then_normal ?_
    refine wp_seq ?_
    refine at_reg (T := S_laws_markIntSS_tab) [] { ts := [4], os := [1, 2] } ⟨[(4, aI (x1 + ((ctL (Sh.ct s34) (List.take i x0) : Nat) : Int)))], [(1, oR s34 (mkAt (Sh.mk s34) (Sh.ct s34) x1 x0 i)), (2, oP 1 (S_laws_markIntSS.hd us 0))]⟩ [] gamOK hT h (by kernel_rfl) trivial ?_
    intro a w h
    refine then_normal ?_
    refine wp_ret ?_
    exact at_returnI (S := S_laws_markIntSS) (x := (x0, x1, ())) [1] [2] ((mkAt (Sh.mk s34) (Sh.ct s34) x1 x0 i), (x1, ())) (some ((x1 + ((ctL (Sh.ct s34) (List.take i x0) : Nat) : Int)), ())) [S_laws_markIntSS.hd us 0 = S_laws_markIntSS.hd us 0] hio h (by kernel_rfl) ⟨rfl, trivial⟩ (by first | rfl | (show ((mkAt (Sh.mk s34) (Sh.ct s34) x1 x0 i), (x1, ())) = ((Sh.mk s185) x0 x1, (x1, ())); rw [show ((mkAt (Sh.mk s34) (Sh.ct s34) x1 x0 i) : (List (List Int))) = (Sh.mk s185) x0 x1 from by exact mkAt_all (by omega)])) (fun z e => (Option.some.inj e) ▸ (congrArg (fun z => (z, ())) (show ((x1 + ((ctL (Sh.ct s34) (List.take i x0) : Nat) : Int))) = (mkK s185) x0 x1 from by (unfold mkK; rw [take_all (by omega)]; rfl))))

def S_laws_markDecoderS : Sum := { fid := 141, dom := [s100, (.int 3)], cod := [(.int 3)], dp := true, fz := false, pre := fun x => (pMk s100) x.1 x.2.1, g := fun x => (((mkK s100) x.1 x.2.1), ()), kinds := [.io, .rd], upd := fun x => ((Sh.mk s100) x.1 x.2.1, (x.2.1, ())) }
def S_laws_markDecoderS_tab : List (Nat × Sum) := [(178, S_laws_markIntSS)]
theorem S_laws_markDecoderS_ok : FnOK Try.prog 141 S_laws_markDecoderS := by
  refine at_enterI 50 [1] [2] (fun us x => ⟨[(0, aS 1), (1, aI x.2.1)], [(1, oR s189 x.1), (2, oP 1 (S_laws_markDecoderS.hd us 0))]⟩) Try.func141 rfl (by kernel_rfl) (fun us x => rfl) ?_
  rintro w0 Z0 us ⟨x0, x1, u⟩ L a w
  revert x0 x1
  intro (x0 : (List T189)) (x1 : Int) hio hpre hlens h
  replace h : At w0 Z0 L 50 ⟨[(0, aS 1), (1, aI x1)], [(1, oR s189 x0), (2, oP 1 (S_laws_markDecoderS.hd us 0))]⟩ a w := h
  replace hpre : (pMk s100) x0 x1 := hpre
  have hl1 : List.length x0 ≤ 9223372036854775807 := hlens.1.1
  have hT : TabOK Try.prog S_laws_markDecoderS_tab := (.cons S_laws_markIntSS_ok .nil)
  have hp : 0 ≤ x1 ∧ x1 + ((Sh.ct s100 x0 : Nat) : Int) ≤ 4611686018427387904 := hpre
  have hct0 : Sh.ct s100 x0 = ctL (Sh.ct s189) x0 := rfl
  refine wp_seq ?_
  refine at_regq (T := S_laws_markDecoderS_tab) [] { ts := [0, 1, 4], os := [1, 2] } [] gamOK hT h (by kernel_rfl) trivial ?_
  intro a w h
  refine then_normal ?_
  refine wp_seq ?_
  refine wp_seq ?_
  refine at_regq (T := S_laws_markDecoderS_tab) [] { ts := [0, 1, 4, 5], os := [1, 2] } [] gamOK hT h (by kernel_rfl) trivial ?_
  intro a w h
  refine then_normal ?_
  refine wp_block ?_
  replace h := at_out (σ' := ⟨[(0, aS 1), (1, aI x1), (4, aI 0), (5, aI 0)], [(1, oR s189 x0), (2, oP 1 (S_laws_markDecoderS.hd us 0))]⟩) { ts := [0, 1, 4, 5], os := [1, 2] } h (by kernel_rfl)
  refine at_loop (fun i : Nat => (⟨[(0, aS 1), (1, aI (x1 + ((ctL (Sh.ct s189) (List.take i x0) : Nat) : Int))), (4, aI 0), (5, aI ((i : Nat) : Int))], [(1, oR s189 (mkAt (Sh.mk s189) (Sh.ct s189) x1 x0 i)), (2, oP 1 (S_laws_markDecoderS.hd us 0))]⟩ : St)) (fun i => i ≤ List.length x0) (fun i => List.length x0 - i) (0) h (st_congr3 (fun (d0 : List T189) (d1 : Int) (d2 : Int) => (⟨[(0, aS 1), (1, aI d1), (4, aI 0), (5, aI d2)], [(1, oR s189 d0), (2, oP 1 (S_laws_markDecoderS.hd us 0))]⟩ : St)) (show (x0 : List T189) = (mkAt (Sh.mk s189) (Sh.ct s189) x1 x0 (0)) from by first | rfl | (first | exact mkAt_zero.symm | simp [ctL])) (show (x1 : Int) = (x1 + ((ctL (Sh.ct s189) (List.take (0) x0) : Nat) : Int)) from by first | rfl | (first | exact mkAt_zero.symm | simp [ctL])) (show (0 : Int) = (((0) : Nat) : Int) from by first | rfl | (first | exact mkAt_zero.symm | simp [ctL]))) (by omega) ?_
  intro i a w hok0 h
  refine wp_seq ?_
  refine wp_seq ?_
  refine at_regq (T := S_laws_markDecoderS_tab) [] { ts := [0, 1, 4, 5, 9], os := [1, 2] } [] gamOK hT h (by kernel_rfl) trivial ?_
  intro a w h
  refine then_normal ?_
  refine at_test (decide (((i : Nat) : Int) < ((List.length (mkAt (Sh.mk s189) (Sh.ct s189) x1 x0 i) : Nat) : Int))) h (by kernel_rfl) (fun h1 => ?_) (fun h1 => ?_)
  · replace h1 : ((i : Nat) : Int) < ((List.length (mkAt (Sh.mk s189) (Sh.ct s189) x1 x0 i) : Nat) : Int) := of_decide_eq_true h1
    have hml : List.length (mkAt (Sh.mk s189) (Sh.ct s189) x1 x0 i) = List.length x0 := mkAt_len
    rw [hml] at h1
    have hat := ctL_at_le (c := Sh.ct s189) (xs := x0) (z := (0, (0, (0, (0, []))))) (i := i) (by omega)
    have hsu := ctL_take_succ (c := Sh.ct s189) (xs := x0) (z := (0, (0, (0, (0, []))))) (i := i) (by omega)
    have hci : Sh.ct s189 (x0.getD i (0, (0, (0, (0, []))))) = (1 + (1 + (1 + (1 + (Sh.ct s185 (x0.getD i (0, (0, (0, (0, []))))).2.2.2.2))))) := rfl
    have hge : List.getD (mkAt (Sh.mk s189) (Sh.ct s189) x1 x0 i) i (0, (0, (0, (0, [])))) = (x0.getD i (0, (0, (0, (0, []))))) := mkAt_get (by omega)
    refine wp_skip ?_
    refine then_normal ?_
    refine wp_seq ?_
    refine wp_block ?_
    refine wp_seq ?_
    replace h := at_open (σ' := ⟨[(0, aS 1), (1, aI (x1 + ((ctL (Sh.ct s189) (List.take i x0) : Nat) : Int))), (4, aI 0), (5, aI ((i : Nat) : Int)), (9, aB (decide (((i : Nat) : Int) < ((List.length (mkAt (Sh.mk s189) (Sh.ct s189) x1 x0 i) : Nat) : Int))))], [(1, some (.op s189 (mkAt (Sh.mk s189) (Sh.ct s189) x1 x0 i) i [cI ((mkAt (Sh.mk s189) (Sh.ct s189) x1 x0 i).getD i (0, (0, (0, (0, []))))).1, cI ((mkAt (Sh.mk s189) (Sh.ct s189) x1 x0 i).getD i (0, (0, (0, (0, []))))).2.1, cI ((mkAt (Sh.mk s189) (Sh.ct s189) x1 x0 i).getD i (0, (0, (0, (0, []))))).2.2.1, cI ((mkAt (Sh.mk s189) (Sh.ct s189) x1 x0 i).getD i (0, (0, (0, (0, []))))).2.2.2.1, .sl 3])), (2, oP 1 (S_laws_markDecoderS.hd us 0)), (3, oR s34 ((mkAt (Sh.mk s189) (Sh.ct s189) x1 x0 i).getD i (0, (0, (0, (0, []))))).2.2.2.2)]⟩) (ps := [i < List.length (mkAt (Sh.mk s189) (Sh.ct s189) x1 x0 i)]) 1 i [3] { ts := [0, 1, 4, 5, 9], os := [1, 2, 3] } h (by kernel_rfl) ⟨(by first | omega | ((try simp only [hge, mkK]); omega) | (simp only [List.length_append, List.length_cons, List.length_nil, List.length_set, List.length_take, List.length_drop, List.length_replicate, List.length_map, Nat.min_def, mkAt_len]; omega) | (simp; done) | (simp; omega)), trivial⟩
    refine at_reg (T := S_laws_markDecoderS_tab) [] { ts := [0, 1, 4, 5], os := [1, 2, 3] } ⟨[(0, aS 1), (1, aI (x1 + ((ctL (Sh.ct s189) (List.take i x0) : Nat) : Int))), (4, aI 0), (5, aI ((i : Nat) : Int))], [(1, some (.op s189 (mkAt (Sh.mk s189) (Sh.ct s189) x1 x0 i) i [cI (x1 + ((ctL (Sh.ct s189) (List.take i x0) : Nat) : Int)), cI ((mkAt (Sh.mk s189) (Sh.ct s189) x1 x0 i).getD i (0, (0, (0, (0, []))))).2.1, cI ((mkAt (Sh.mk s189) (Sh.ct s189) x1 x0 i).getD i (0, (0, (0, (0, []))))).2.2.1, cI ((mkAt (Sh.mk s189) (Sh.ct s189) x1 x0 i).getD i (0, (0, (0, (0, []))))).2.2.2.1, .sl 3])), (2, oP 1 (S_laws_markDecoderS.hd us 0)), (3, oR s34 ((mkAt (Sh.mk s189) (Sh.ct s189) x1 x0 i).getD i (0, (0, (0, (0, []))))).2.2.2.2)]⟩ [(0 : Int) ≤ ((i : Nat) : Int) ∧ ((i : Nat) : Int) < ((List.length (mkAt (Sh.mk s189) (Sh.ct s189) x1 x0 i) : Nat) : Int), i = i] gamOK hT h (by kernel_rfl) ⟨(by refine ⟨?_, ?_⟩ <;> (first | omega | ((try simp only [hge, mkK]); omega) | (simp only [List.length_append, List.length_cons, List.length_nil, List.length_set, List.length_take, List.length_drop, List.length_replicate, List.length_map, Nat.min_def, mkAt_len]; omega) | (simp; done) | (simp; omega))), rfl, trivial⟩ ?_
    intro a w h
    refine then_normal ?_
    refine wp_seq ?_
    refine at_regq (T := S_laws_markDecoderS_tab) [{}, { nw := true }] { ts := [0, 1, 4, 5], os := [1, 2, 3] } [I64 ((x1 + ((ctL (Sh.ct s189) (List.take i x0) : Nat) : Int)) + 1)] gamOK hT h (by kernel_rfl) ⟨⟨by first | omega | ((try simp only [hge, mkK]); omega) | (simp only [List.length_append, List.length_cons, List.length_nil, List.length_set, List.length_take, List.length_drop, List.length_replicate, List.length_map, Nat.min_def, mkAt_len]; omega) | (simp; done) | (simp; omega), by first | omega | ((try simp only [hge, mkK]); omega) | (simp only [List.length_append, List.length_cons, List.length_nil, List.length_set, List.length_take, List.length_drop, List.length_replicate, List.length_map, Nat.min_def, mkAt_len]; omega) | (simp; done) | (simp; omega)⟩, trivial⟩ ?_
    intro a w h
    refine then_normal ?_
    refine wp_seq ?_
    refine at_regq (T := S_laws_markDecoderS_tab) [] { ts := [0, 1, 4, 5], os := [1, 2, 3] } [(0 : Int) ≤ ((i : Nat) : Int) ∧ ((i : Nat) : Int) < ((List.length (mkAt (Sh.mk s189) (Sh.ct s189) x1 x0 i) : Nat) : Int), i = i] gamOK hT h (by kernel_rfl) ⟨(by refine ⟨?_, ?_⟩ <;> (first | omega | ((try simp only [hge, mkK]); omega) | (simp only [List.length_append, List.length_cons, List.length_nil, List.length_set, List.length_take, List.length_drop, List.length_replicate, List.length_map, Nat.min_def, mkAt_len]; omega) | (simp; done) | (simp; omega))), rfl, trivial⟩ ?_
    intro a w h
    refine then_normal ?_
    refine wp_seq ?_
    refine at_regq (T := S_laws_markDecoderS_tab) [{}, { nw := true }] { ts := [0, 1, 4, 5], os := [1, 2, 3] } [I64 (((x1 + ((ctL (Sh.ct s189) (List.take i x0) : Nat) : Int)) + 1) + 1)] gamOK hT h (by kernel_rfl) ⟨⟨by first | omega | ((try simp only [hge, mkK]); omega) | (simp only [List.length_append, List.length_cons, List.length_nil, List.length_set, List.length_take, List.length_drop, List.length_replicate, List.length_map, Nat.min_def, mkAt_len]; omega) | (simp; done) | (simp; omega), by first | omega | ((try simp only [hge, mkK]); omega) | (simp only [List.length_append, List.length_cons, List.length_nil, List.length_set, List.length_take, List.length_drop, List.length_replicate, List.length_map, Nat.min_def, mkAt_len]; omega) | (simp; done) | (simp; omega)⟩, trivial⟩ ?_
    intro a w h
    refine then_normal ?_
    refine wp_seq ?_
    refine at_reg (T := S_laws_markDecoderS_tab) [] { ts := [0, 1, 4, 5], os := [1, 2, 3] } ⟨[(0, aS 1), (1, aI (((x1 + ((ctL (Sh.ct s189) (List.take i x0) : Nat) : Int)) + 1) + 1)), (4, aI 0), (5, aI ((i : Nat) : Int))], [(1, some (.op s189 (mkAt (Sh.mk s189) (Sh.ct s189) x1 x0 i) i [cI (x1 + ((ctL (Sh.ct s189) (List.take i x0) : Nat) : Int)), cI ((x1 + ((ctL (Sh.ct s189) (List.take i x0) : Nat) : Int)) + 1), cI (((x1 + ((ctL (Sh.ct s189) (List.take i x0) : Nat) : Int)) + 1) + 1), cI ((mkAt (Sh.mk s189) (Sh.ct s189) x1 x0 i).getD i (0, (0, (0, (0, []))))).2.2.2.1, .sl 3])), (2, oP 1 (S_laws_markDecoderS.hd us 0)), (3, oR s34 ((mkAt (Sh.mk s189) (Sh.ct s189) x1 x0 i).getD i (0, (0, (0, (0, []))))).2.2.2.2)]⟩ [(0 : Int) ≤ ((i : Nat) : Int) ∧ ((i : Nat) : Int) < ((List.length (mkAt (Sh.mk s189) (Sh.ct s189) x1 x0 i) : Nat) : Int), i = i] gamOK hT h (by kernel_rfl) ⟨(by refine ⟨?_, ?_⟩ <;> (first | omega | ((try simp only [hge, mkK]); omega) | (simp only [List.length_append, List.length_cons, List.length_nil, List.length_set, List.length_take, List.length_drop, List.length_replicate, List.length_map, Nat.min_def, mkAt_len]; omega) | (simp; done) | (simp; omega))), rfl, trivial⟩ ?_
    intro a w h
    refine then_normal ?_
    refine wp_seq ?_
    refine at_regq (T := S_laws_markDecoderS_tab) [{}, { nw := true }] { ts := [0, 1, 4, 5], os := [1, 2, 3] } [I64 ((((x1 + ((ctL (Sh.ct s189) (List.take i x0) : Nat) : Int)) + 1) + 1) + 1)] gamOK hT h (by kernel_rfl) ⟨⟨by first | omega | ((try simp only [hge, mkK]); omega) | (simp only [List.length_append, List.length_cons, List.length_nil, List.length_set, List.length_take, List.length_drop, List.length_replicate, List.length_map, Nat.min_def, mkAt_len]; omega) | (simp; done) | (simp; omega), by first | omega | ((try simp only [hge, mkK]); omega) | (simp only [List.length_append, List.length_cons, List.length_nil, List.length_set, List.length_take, List.length_drop, List.length_replicate, List.length_map, Nat.min_def, mkAt_len]; omega) | (simp; done) | (simp; omega)⟩, trivial⟩ ?_
    intro a w h
    refine then_normal ?_
    refine wp_seq ?_
    refine at_regq (T := S_laws_markDecoderS_tab) [] { ts := [0, 1, 4, 5], os := [1, 2, 3] } [(0 : Int) ≤ ((i : Nat) : Int) ∧ ((i : Nat) : Int) < ((List.length (mkAt (Sh.mk s189) (Sh.ct s189) x1 x0 i) : Nat) : Int), i = i] gamOK hT h (by kernel_rfl) ⟨(by refine ⟨?_, ?_⟩ <;> (first | omega | ((try simp only [hge, mkK]); omega) | (simp only [List.length_append, List.length_cons, List.length_nil, List.length_set, List.length_take, List.length_drop, List.length_replicate, List.length_map, Nat.min_def, mkAt_len]; omega) | (simp; done) | (simp; omega))), rfl, trivial⟩ ?_
    intro a w h
    refine then_normal ?_
    refine wp_seq ?_
    refine at_regq (T := S_laws_markDecoderS_tab) [{}, { nw := true }] { ts := [0, 1, 4, 5], os := [1, 2, 3] } [I64 (((((x1 + ((ctL (Sh.ct s189) (List.take i x0) : Nat) : Int)) + 1) + 1) + 1) + 1)] gamOK hT h (by kernel_rfl) ⟨⟨by first | omega | ((try simp only [hge, mkK]); omega) | (simp only [List.length_append, List.length_cons, List.length_nil, List.length_set, List.length_take, List.length_drop, List.length_replicate, List.length_map, Nat.min_def, mkAt_len]; omega) | (simp; done) | (simp; omega), by first | omega | ((try simp only [hge, mkK]); omega) | (simp only [List.length_append, List.length_cons, List.length_nil, List.length_set, List.length_take, List.length_drop, List.length_replicate, List.length_map, Nat.min_def, mkAt_len]; omega) | (simp; done) | (simp; omega)⟩, trivial⟩ ?_
    intro a w h
    refine then_normal ?_
    refine at_reg (T := S_laws_markDecoderS_tab) [] { ts := [0, 1, 4, 5], os := [1, 2, 3] } ⟨[(0, aS 1), (1, aI ((mkK s185) ((mkAt (Sh.mk s189) (Sh.ct s189) x1 x0 i).getD i (0, (0, (0, (0, []))))).2.2.2.2 (((((x1 + ((ctL (Sh.ct s189) (List.take i x0) : Nat) : Int)) + 1) + 1) + 1) + 1))), (4, aI 0), (5, aI ((i : Nat) : Int))], [(1, some (.op s189 (mkAt (Sh.mk s189) (Sh.ct s189) x1 x0 i) i [cI (x1 + ((ctL (Sh.ct s189) (List.take i x0) : Nat) : Int)), cI ((x1 + ((ctL (Sh.ct s189) (List.take i x0) : Nat) : Int)) + 1), cI (((x1 + ((ctL (Sh.ct s189) (List.take i x0) : Nat) : Int)) + 1) + 1), cI ((((x1 + ((ctL (Sh.ct s189) (List.take i x0) : Nat) : Int)) + 1) + 1) + 1), .sl 3])), (2, oP 1 (S_laws_markDecoderS.hd us 0)), (3, oR s34 ((Sh.mk s185) ((mkAt (Sh.mk s189) (Sh.ct s189) x1 x0 i).getD i (0, (0, (0, (0, []))))).2.2.2.2 (((((x1 + ((ctL (Sh.ct s189) (List.take i x0) : Nat) : Int)) + 1) + 1) + 1) + 1)))]⟩ [(0 : Int) ≤ ((i : Nat) : Int) ∧ ((i : Nat) : Int) < ((List.length (mkAt (Sh.mk s189) (Sh.ct s189) x1 x0 i) : Nat) : Int), i = i, (pMk s185) ((mkAt (Sh.mk s189) (Sh.ct s189) x1 x0 i).getD i (0, (0, (0, (0, []))))).2.2.2.2 (((((x1 + ((ctL (Sh.ct s189) (List.take i x0) : Nat) : Int)) + 1) + 1) + 1) + 1)] gamOK hT h (by kernel_rfl) ⟨(by refine ⟨?_, ?_⟩ <;> (first | omega | ((try simp only [hge, mkK]); omega) | (simp only [List.length_append, List.length_cons, List.length_nil, List.length_set, List.length_take, List.length_drop, List.length_replicate, List.length_map, Nat.min_def, mkAt_len]; omega) | (simp; done) | (simp; omega))), rfl, (by (show (0 : Int) ≤ _ ∧ _ + ((Sh.ct _ _ : Nat) : Int) ≤ (4611686018427387904 : Int); (try simp only [hge, mkK]); constructor <;> omega)), trivial⟩ ?_
    intro a w h
    refine in_normal ?_
    refine then_normal ?_
    refine at_regq (T := S_laws_markDecoderS_tab) [{}, { nw := true }] { ts := [0, 1, 4, 5], os := [1, 2, 3] } [I64 (((i : Nat) : Int) + 1)] gamOK hT h (by kernel_rfl) ⟨⟨by first | omega | ((try simp only [hge, mkK]); omega) | (simp only [List.length_append, List.length_cons, List.length_nil, List.length_set, List.length_take, List.length_drop, List.length_replicate, List.length_map, Nat.min_def, mkAt_len]; omega) | (simp; done) | (simp; omega), by first | omega | ((try simp only [hge, mkK]); omega) | (simp only [List.length_append, List.length_cons, List.length_nil, List.length_set, List.length_take, List.length_drop, List.length_replicate, List.length_map, Nat.min_def, mkAt_len]; omega) | (simp; done) | (simp; omega)⟩, trivial⟩ ?_
    intro a w h
    replace h := at_shut (σ' := ⟨[(0, aS 1), (1, aI ((mkK s185) ((mkAt (Sh.mk s189) (Sh.ct s189) x1 x0 i).getD i (0, (0, (0, (0, []))))).2.2.2.2 (((((x1 + ((ctL (Sh.ct s189) (List.take i x0) : Nat) : Int)) + 1) + 1) + 1) + 1))), (4, aI 0), (5, aI (((i : Nat) : Int) + 1))], [(1, oR s189 (List.set (mkAt (Sh.mk s189) (Sh.ct s189) x1 x0 i) i ((x1 + ((ctL (Sh.ct s189) (List.take i x0) : Nat) : Int)), ((x1 + ((ctL (Sh.ct s189) (List.take i x0) : Nat) : Int)) + 1, (((x1 + ((ctL (Sh.ct s189) (List.take i x0) : Nat) : Int)) + 1) + 1, ((((x1 + ((ctL (Sh.ct s189) (List.take i x0) : Nat) : Int)) + 1) + 1) + 1, ((Sh.mk s185) ((mkAt (Sh.mk s189) (Sh.ct s189) x1 x0 i).getD i (0, (0, (0, (0, []))))).2.2.2.2 (((((x1 + ((ctL (Sh.ct s189) (List.take i x0) : Nat) : Int)) + 1) + 1) + 1) + 1)))))))), (2, oP 1 (S_laws_markDecoderS.hd us 0))]⟩) (ps := []) 1 { ts := [0, 1, 4, 5], os := [1, 2] } h (by kernel_rfl) trivial
    replace h := at_out (σ' := ⟨[(0, aS 1), (1, aI ((mkK s185) ((mkAt (Sh.mk s189) (Sh.ct s189) x1 x0 i).getD i (0, (0, (0, (0, []))))).2.2.2.2 (((((x1 + ((ctL (Sh.ct s189) (List.take i x0) : Nat) : Int)) + 1) + 1) + 1) + 1))), (4, aI 0), (5, aI (((i : Nat) : Int) + 1))], [(1, oR s189 (List.set (mkAt (Sh.mk s189) (Sh.ct s189) x1 x0 i) i ((x1 + ((ctL (Sh.ct s189) (List.take i x0) : Nat) : Int)), ((x1 + ((ctL (Sh.ct s189) (List.take i x0) : Nat) : Int)) + 1, (((x1 + ((ctL (Sh.ct s189) (List.take i x0) : Nat) : Int)) + 1) + 1, ((((x1 + ((ctL (Sh.ct s189) (List.take i x0) : Nat) : Int)) + 1) + 1) + 1, ((Sh.mk s185) ((mkAt (Sh.mk s189) (Sh.ct s189) x1 x0 i).getD i (0, (0, (0, (0, []))))).2.2.2.2 (((((x1 + ((ctL (Sh.ct s189) (List.take i x0) : Nat) : Int)) + 1) + 1) + 1) + 1)))))))), (2, oP 1 (S_laws_markDecoderS.hd us 0))]⟩) { ts := [0, 1, 4, 5], os := [1, 2] } h (by kernel_rfl)
    skip
    exact ⟨i + 1, at_eq h (st_congr3 (fun (d0 : List T189) (d1 : Int) (d2 : Int) => (⟨[(0, aS 1), (1, aI d1), (4, aI 0), (5, aI d2)], [(1, oR s189 d0), (2, oP 1 (S_laws_markDecoderS.hd us 0))]⟩ : St)) (show ((List.set (mkAt (Sh.mk s189) (Sh.ct s189) x1 x0 i) i ((x1 + ((ctL (Sh.ct s189) (List.take i x0) : Nat) : Int)), ((x1 + ((ctL (Sh.ct s189) (List.take i x0) : Nat) : Int)) + 1, (((x1 + ((ctL (Sh.ct s189) (List.take i x0) : Nat) : Int)) + 1) + 1, ((((x1 + ((ctL (Sh.ct s189) (List.take i x0) : Nat) : Int)) + 1) + 1) + 1, ((Sh.mk s185) ((mkAt (Sh.mk s189) (Sh.ct s189) x1 x0 i).getD i (0, (0, (0, (0, []))))).2.2.2.2 (((((x1 + ((ctL (Sh.ct s189) (List.take i x0) : Nat) : Int)) + 1) + 1) + 1) + 1))))))) : List T189) = (mkAt (Sh.mk s189) (Sh.ct s189) x1 x0 (i + 1)) from by first | rfl | (refine mkAt_set' (z := (0, (0, (0, (0, []))))) (by omega) ?_; first | (simp only [hge, mkK]; done) | ((try simp only [hge, mkK]); show _ = Sh.mk s189 (x0.getD i (0, (0, (0, (0, []))))) _; exact (Prod.ext (by show (_ : Int) = _; first | rfl | omega) (Prod.ext (by show (_ : Int) = _; first | rfl | omega) (Prod.ext (by show (_ : Int) = _; first | rfl | omega) (Prod.ext (by show (_ : Int) = _; first | rfl | omega) (congrArg (fun k => Sh.mk s185 (x0.getD i (0, (0, (0, (0, []))))).2.2.2.2 k) (by first | rfl | omega))))))))) (show (((mkK s185) ((mkAt (Sh.mk s189) (Sh.ct s189) x1 x0 i).getD i (0, (0, (0, (0, []))))).2.2.2.2 (((((x1 + ((ctL (Sh.ct s189) (List.take i x0) : Nat) : Int)) + 1) + 1) + 1) + 1)) : Int) = (x1 + ((ctL (Sh.ct s189) (List.take (i + 1) x0) : Nat) : Int)) from by first | rfl | (((try simp only [hge, mkK]); omega))) (show (((i : Nat) : Int) + 1 : Int) = (((i + 1) : Nat) : Int) from by first | rfl | (omega))), (by first | omega | (refine ⟨?_, ?_⟩ <;> omega)), (by omega)⟩
  · replace h1 : ¬ (((i : Nat) : Int) < ((List.length (mkAt (Sh.mk s189) (Sh.ct s189) x1 x0 i) : Nat) : Int)) := of_decide_eq_false h1
    have hml : List.length (mkAt (Sh.mk s189) (Sh.ct s189) x1 x0 i) = List.length x0 := mkAt_len
    rw [hml] at h1
    refine wp_exit ?_
    refine then_exit ?_
    refine then_exit ?_
    refine in_hit ?_
    refine then_normal ?_
    refine wp_seq ?_
    refine at_reg (T := S_laws_markDecoderS_tab) [] { ts := [4], os := [1, 2] } ⟨[(4, aI (x1 + ((ctL (Sh.ct s189) (List.take i x0) : Nat) : Int)))], [(1, oR s189 (mkAt (Sh.mk s189) (Sh.ct s189) x1 x0 i)), (2, oP 1 (S_laws_markDecoderS.hd us 0))]⟩ [] gamOK hT h (by kernel_rfl) trivial ?_
    intro a w h
    refine then_normal ?_
    refine wp_ret ?_
    exact at_returnI (S := S_laws_markDecoderS) (x := (x0, x1, ())) [1] [2] ((mkAt (Sh.mk s189) (Sh.ct s189) x1 x0 i), (x1, ())) (some ((x1 + ((ctL (Sh.ct s189) (List.take i x0) : Nat) : Int)), ())) [S_laws_markDecoderS.hd us 0 = S_laws_markDecoderS.hd us 0] hio h (by kernel_rfl) ⟨rfl, trivial⟩ (by first | rfl | (show ((mkAt (Sh.mk s189) (Sh.ct s189) x1 x0 i), (x1, ())) = ((Sh.mk s100) x0 x1, (x1, ())); rw [show ((mkAt (Sh.mk s189) (Sh.ct s189) x1 x0 i) : (List T189)) = (Sh.mk s100) x0 x1 from by exact mkAt_all (by omega)])) (fun z e => (Option.some.inj e) ▸ (congrArg (fun z => (z, ())) (show ((x1 + ((ctL (Sh.ct s189) (List.take i x0) : Nat) : Int))) = (mkK s100) x0 x1 from by (unfold mkK; rw [take_all (by omega)]; rfl))))

def S_laws_markGenerationS : Sum := { fid := 142, dom := [s101, (.int 3)], cod := [(.int 3)], dp := true, fz := false, pre := fun x => (pMk s101) x.1 x.2.1, g := fun x => (((mkK s101) x.1 x.2.1), ()), kinds := [.io, .rd], upd := fun x => ((Sh.mk s101) x.1 x.2.1, (x.2.1, ())) }
def S_laws_markGenerationS_tab : List (Nat × Sum) := [(178, S_laws_markIntSS)]
theorem S_laws_markGenerationS_ok : FnOK Try.prog 142 S_laws_markGenerationS := by
  refine at_enterI 27 [1] [2] (fun us x => ⟨[(0, aS 1), (1, aI x.2.1)], [(1, oR s192 x.1), (2, oP 1 (S_laws_markGenerationS.hd us 0))]⟩) Try.func142 rfl (by kernel_rfl) (fun us x => rfl) ?_
  rintro w0 Z0 us ⟨x0, x1, u⟩ L a w
  revert x0 x1
  intro (x0 : (List T192)) (x1 : Int) hio hpre hlens h
  replace h : At w0 Z0 L 27 ⟨[(0, aS 1), (1, aI x1)], [(1, oR s192 x0), (2, oP 1 (S_laws_markGenerationS.hd us 0))]⟩ a w := h
  replace hpre : (pMk s101) x0 x1 := hpre
  have hl1 : List.length x0 ≤ 9223372036854775807 := hlens.1.1
  have hT : TabOK Try.prog S_laws_markGenerationS_tab := (.cons S_laws_markIntSS_ok .nil)
  have hp : 0 ≤ x1 ∧ x1 + ((Sh.ct s101 x0 : Nat) : Int) ≤ 4611686018427387904 := hpre
  have hct0 : Sh.ct s101 x0 = ctL (Sh.ct s192) x0 := rfl
  refine wp_seq ?_
  refine at_regq (T := S_laws_markGenerationS_tab) [] { ts := [0, 1, 4], os := [1, 2] } [] gamOK hT h (by kernel_rfl) trivial ?_
  intro a w h
  refine then_normal ?_
  refine wp_seq ?_
  refine wp_seq ?_
  refine at_regq (T := S_laws_markGenerationS_tab) [] { ts := [0, 1, 4, 5], os := [1, 2] } [] gamOK hT h (by kernel_rfl) trivial ?_
  intro a w h
  refine then_normal ?_
  refine wp_block ?_
  replace h := at_out (σ' := ⟨[(0, aS 1), (1, aI x1), (4, aI 0), (5, aI 0)], [(1, oR s192 x0), (2, oP 1 (S_laws_markGenerationS.hd us 0))]⟩) { ts := [0, 1, 4, 5], os := [1, 2] } h (by kernel_rfl)
  refine at_loop (fun i : Nat => (⟨[(0, aS 1), (1, aI (x1 + ((ctL (Sh.ct s192) (List.take i x0) : Nat) : Int))), (4, aI 0), (5, aI ((i : Nat) : Int))], [(1, oR s192 (mkAt (Sh.mk s192) (Sh.ct s192) x1 x0 i)), (2, oP 1 (S_laws_markGenerationS.hd us 0))]⟩ : St)) (fun i => i ≤ List.length x0) (fun i => List.length x0 - i) (0) h (st_congr3 (fun (d0 : List T192) (d1 : Int) (d2 : Int) => (⟨[(0, aS 1), (1, aI d1), (4, aI 0), (5, aI d2)], [(1, oR s192 d0), (2, oP 1 (S_laws_markGenerationS.hd us 0))]⟩ : St)) (show (x0 : List T192) = (mkAt (Sh.mk s192) (Sh.ct s192) x1 x0 (0)) from by first | rfl | (first | exact mkAt_zero.symm | simp [ctL])) (show (x1 : Int) = (x1 + ((ctL (Sh.ct s192) (List.take (0) x0) : Nat) : Int)) from by first | rfl | (first | exact mkAt_zero.symm | simp [ctL])) (show (0 : Int) = (((0) : Nat) : Int) from by first | rfl | (first | exact mkAt_zero.symm | simp [ctL]))) (by omega) ?_
  intro i a w hok0 h
  refine wp_seq ?_
  refine wp_seq ?_
  refine at_regq (T := S_laws_markGenerationS_tab) [] { ts := [0, 1, 4, 5, 9], os := [1, 2] } [] gamOK hT h (by kernel_rfl) trivial ?_
  intro a w h
  refine then_normal ?_
  refine at_test (decide (((i : Nat) : Int) < ((List.length (mkAt (Sh.mk s192) (Sh.ct s192) x1 x0 i) : Nat) : Int))) h (by kernel_rfl) (fun h1 => ?_) (fun h1 => ?_)
  · replace h1 : ((i : Nat) : Int) < ((List.length (mkAt (Sh.mk s192) (Sh.ct s192) x1 x0 i) : Nat) : Int) := of_decide_eq_true h1
    have hml : List.length (mkAt (Sh.mk s192) (Sh.ct s192) x1 x0 i) = List.length x0 := mkAt_len
    rw [hml] at h1
    have hat := ctL_at_le (c := Sh.ct s192) (xs := x0) (z := (0, [])) (i := i) (by omega)
    have hsu := ctL_take_succ (c := Sh.ct s192) (xs := x0) (z := (0, [])) (i := i) (by omega)
    have hci : Sh.ct s192 (x0.getD i (0, [])) = (1 + (Sh.ct s185 (x0.getD i (0, [])).2)) := rfl
    have hge : List.getD (mkAt (Sh.mk s192) (Sh.ct s192) x1 x0 i) i (0, []) = (x0.getD i (0, [])) := mkAt_get (by omega)
    refine wp_skip ?_
    refine then_normal ?_
    refine wp_seq ?_
    refine wp_block ?_
    refine wp_seq ?_
    replace h := at_open (σ' := ⟨[(0, aS 1), (1, aI (x1 + ((ctL (Sh.ct s192) (List.take i x0) : Nat) : Int))), (4, aI 0), (5, aI ((i : Nat) : Int)), (9, aB (decide (((i : Nat) : Int) < ((List.length (mkAt (Sh.mk s192) (Sh.ct s192) x1 x0 i) : Nat) : Int))))], [(1, some (.op s192 (mkAt (Sh.mk s192) (Sh.ct s192) x1 x0 i) i [cI ((mkAt (Sh.mk s192) (Sh.ct s192) x1 x0 i).getD i (0, [])).1, .sl 3])), (2, oP 1 (S_laws_markGenerationS.hd us 0)), (3, oR s34 ((mkAt (Sh.mk s192) (Sh.ct s192) x1 x0 i).getD i (0, [])).2)]⟩) (ps := [i < List.length (mkAt (Sh.mk s192) (Sh.ct s192) x1 x0 i)]) 1 i [3] { ts := [0, 1, 4, 5, 9], os := [1, 2, 3] } h (by kernel_rfl) ⟨(by first | omega | ((try simp only [hge, mkK]); omega) | (simp only [List.length_append, List.length_cons, List.length_nil, List.length_set, List.length_take, List.length_drop, List.length_replicate, List.length_map, Nat.min_def, mkAt_len]; omega) | (simp; done) | (simp; omega)), trivial⟩
    refine at_reg (T := S_laws_markGenerationS_tab) [] { ts := [0, 1, 4, 5], os := [1, 2, 3] } ⟨[(0, aS 1), (1, aI (x1 + ((ctL (Sh.ct s192) (List.take i x0) : Nat) : Int))), (4, aI 0), (5, aI ((i : Nat) : Int))], [(1, some (.op s192 (mkAt (Sh.mk s192) (Sh.ct s192) x1 x0 i) i [cI (x1 + ((ctL (Sh.ct s192) (List.take i x0) : Nat) : Int)), .sl 3])), (2, oP 1 (S_laws_markGenerationS.hd us 0)), (3, oR s34 ((mkAt (Sh.mk s192) (Sh.ct s192) x1 x0 i).getD i (0, [])).2)]⟩ [(0 : Int) ≤ ((i : Nat) : Int) ∧ ((i : Nat) : Int) < ((List.length (mkAt (Sh.mk s192) (Sh.ct s192) x1 x0 i) : Nat) : Int), i = i] gamOK hT h (by kernel_rfl) ⟨(by refine ⟨?_, ?_⟩ <;> (first | omega | ((try simp only [hge, mkK]); omega) | (simp only [List.length_append, List.length_cons, List.length_nil, List.length_set, List.length_take, List.length_drop, List.length_replicate, List.length_map, Nat.min_def, mkAt_len]; omega) | (simp; done) | (simp; omega))), rfl, trivial⟩ ?_
    intro a w h
    refine then_normal ?_
    refine wp_seq ?_
    refine at_regq (T := S_laws_markGenerationS_tab) [{}, { nw := true }] { ts := [0, 1, 4, 5], os := [1, 2, 3] } [I64 ((x1 + ((ctL (Sh.ct s192) (List.take i x0) : Nat) : Int)) + 1)] gamOK hT h (by kernel_rfl) ⟨⟨by first | omega | ((try simp only [hge, mkK]); omega) | (simp only [List.length_append, List.length_cons, List.length_nil, List.length_set, List.length_take, List.length_drop, List.length_replicate, List.length_map, Nat.min_def, mkAt_len]; omega) | (simp; done) | (simp; omega), by first | omega | ((try simp only [hge, mkK]); omega) | (simp only [List.length_append, List.length_cons, List.length_nil, List.length_set, List.length_take, List.length_drop, List.length_replicate, List.length_map, Nat.min_def, mkAt_len]; omega) | (simp; done) | (simp; omega)⟩, trivial⟩ ?_
    intro a w h
    refine then_normal ?_
    refine at_regq (T := S_laws_markGenerationS_tab) [] { ts := [0, 1, 4, 5], os := [1, 2, 3] } [(0 : Int) ≤ ((i : Nat) : Int) ∧ ((i : Nat) : Int) < ((List.length (mkAt (Sh.mk s192) (Sh.ct s192) x1 x0 i) : Nat) : Int), i = i, (pMk s185) ((mkAt (Sh.mk s192) (Sh.ct s192) x1 x0 i).getD i (0, [])).2 ((x1 + ((ctL (Sh.ct s192) (List.take i x0) : Nat) : Int)) + 1)] gamOK hT h (by kernel_rfl) ⟨(by refine ⟨?_, ?_⟩ <;> (first | omega | ((try simp only [hge, mkK]); omega) | (simp only [List.length_append, List.length_cons, List.length_nil, List.length_set, List.length_take, List.length_drop, List.length_replicate, List.length_map, Nat.min_def, mkAt_len]; omega) | (simp; done) | (simp; omega))), rfl, (by (show (0 : Int) ≤ _ ∧ _ + ((Sh.ct _ _ : Nat) : Int) ≤ (4611686018427387904 : Int); (try simp only [hge, mkK]); constructor <;> omega)), trivial⟩ ?_
    intro a w h
    refine in_normal ?_
    refine then_normal ?_
    refine at_regq (T := S_laws_markGenerationS_tab) [{}, { nw := true }] { ts := [0, 1, 4, 5], os := [1, 2, 3] } [I64 (((i : Nat) : Int) + 1)] gamOK hT h (by kernel_rfl) ⟨⟨by first | omega | ((try simp only [hge, mkK]); omega) | (simp only [List.length_append, List.length_cons, List.length_nil, List.length_set, List.length_take, List.length_drop, List.length_replicate, List.length_map, Nat.min_def, mkAt_len]; omega) | (simp; done) | (simp; omega), by first | omega | ((try simp only [hge, mkK]); omega) | (simp only [List.length_append, List.length_cons, List.length_nil, List.length_set, List.length_take, List.length_drop, List.length_replicate, List.length_map, Nat.min_def, mkAt_len]; omega) | (simp; done) | (simp; omega)⟩, trivial⟩ ?_
    intro a w h
    replace h := at_shut (σ' := ⟨[(0, aS 1), (1, aI ((mkK s185) ((mkAt (Sh.mk s192) (Sh.ct s192) x1 x0 i).getD i (0, [])).2 ((x1 + ((ctL (Sh.ct s192) (List.take i x0) : Nat) : Int)) + 1))), (4, aI 0), (5, aI (((i : Nat) : Int) + 1))], [(1, oR s192 (List.set (mkAt (Sh.mk s192) (Sh.ct s192) x1 x0 i) i ((x1 + ((ctL (Sh.ct s192) (List.take i x0) : Nat) : Int)), ((Sh.mk s185) ((mkAt (Sh.mk s192) (Sh.ct s192) x1 x0 i).getD i (0, [])).2 ((x1 + ((ctL (Sh.ct s192) (List.take i x0) : Nat) : Int)) + 1))))), (2, oP 1 (S_laws_markGenerationS.hd us 0))]⟩) (ps := []) 1 { ts := [0, 1, 4, 5], os := [1, 2] } h (by kernel_rfl) trivial
    replace h := at_out (σ' := ⟨[(0, aS 1), (1, aI ((mkK s185) ((mkAt (Sh.mk s192) (Sh.ct s192) x1 x0 i).getD i (0, [])).2 ((x1 + ((ctL (Sh.ct s192) (List.take i x0) : Nat) : Int)) + 1))), (4, aI 0), (5, aI (((i : Nat) : Int) + 1))], [(1, oR s192 (List.set (mkAt (Sh.mk s192) (Sh.ct s192) x1 x0 i) i ((x1 + ((ctL (Sh.ct s192) (List.take i x0) : Nat) : Int)), ((Sh.mk s185) ((mkAt (Sh.mk s192) (Sh.ct s192) x1 x0 i).getD i (0, [])).2 ((x1 + ((ctL (Sh.ct s192) (List.take i x0) : Nat) : Int)) + 1))))), (2, oP 1 (S_laws_markGenerationS.hd us 0))]⟩) { ts := [0, 1, 4, 5], os := [1, 2] } h (by kernel_rfl)
    skip
    exact ⟨i + 1, at_eq h (st_congr3 (fun (d0 : List T192) (d1 : Int) (d2 : Int) => (⟨[(0, aS 1), (1, aI d1), (4, aI 0), (5, aI d2)], [(1, oR s192 d0), (2, oP 1 (S_laws_markGenerationS.hd us 0))]⟩ : St)) (show ((List.set (mkAt (Sh.mk s192) (Sh.ct s192) x1 x0 i) i ((x1 + ((ctL (Sh.ct s192) (List.take i x0) : Nat) : Int)), ((Sh.mk s185) ((mkAt (Sh.mk s192) (Sh.ct s192) x1 x0 i).getD i (0, [])).2 ((x1 + ((ctL (Sh.ct s192) (List.take i x0) : Nat) : Int)) + 1)))) : List T192) = (mkAt (Sh.mk s192) (Sh.ct s192) x1 x0 (i + 1)) from by first | rfl | (refine mkAt_set' (z := (0, [])) (by omega) ?_; first | (simp only [hge, mkK]; done) | ((try simp only [hge, mkK]); show _ = Sh.mk s192 (x0.getD i (0, [])) _; exact (Prod.ext (by show (_ : Int) = _; first | rfl | omega) (congrArg (fun k => Sh.mk s185 (x0.getD i (0, [])).2 k) (by first | rfl | omega)))))) (show (((mkK s185) ((mkAt (Sh.mk s192) (Sh.ct s192) x1 x0 i).getD i (0, [])).2 ((x1 + ((ctL (Sh.ct s192) (List.take i x0) : Nat) : Int)) + 1)) : Int) = (x1 + ((ctL (Sh.ct s192) (List.take (i + 1) x0) : Nat) : Int)) from by first | rfl | (((try simp only [hge, mkK]); omega))) (show (((i : Nat) : Int) + 1 : Int) = (((i + 1) : Nat) : Int) from by first | rfl | (omega))), (by first | omega | (refine ⟨?_, ?_⟩ <;> omega)), (by omega)⟩
  · replace h1 : ¬ (((i : Nat) : Int) < ((List.length (mkAt (Sh.mk s192) (Sh.ct s192) x1 x0 i) : Nat) : Int)) := of_decide_eq_false h1
    have hml : List.length (mkAt (Sh.mk s192) (Sh.ct s192) x1 x0 i) = List.length x0 := mkAt_len
    rw [hml] at h1
    refine wp_exit ?_
    refine then_exit ?_
    refine then_exit ?_
    refine in_hit ?_
    refine then_normal ?_
    refine wp_seq ?_
    refine at_reg (T := S_laws_markGenerationS_tab) [] { ts := [4], os := [1, 2] } ⟨[(4, aI (x1 + ((ctL (Sh.ct s192) (List.take i x0) : Nat) : Int)))], [(1, oR s192 (mkAt (Sh.mk s192) (Sh.ct s192) x1 x0 i)), (2, oP 1 (S_laws_markGenerationS.hd us 0))]⟩ [] gamOK hT h (by kernel_rfl) trivial ?_
    intro a w h
    refine then_normal ?_
    refine wp_ret ?_
    exact at_returnI (S := S_laws_markGenerationS) (x := (x0, x1, ())) [1] [2] ((mkAt (Sh.mk s192) (Sh.ct s192) x1 x0 i), (x1, ())) (some ((x1 + ((ctL (Sh.ct s192) (List.take i x0) : Nat) : Int)), ())) [S_laws_markGenerationS.hd us 0 = S_laws_markGenerationS.hd us 0] hio h (by kernel_rfl) ⟨rfl, trivial⟩ (by first | rfl | (show ((mkAt (Sh.mk s192) (Sh.ct s192) x1 x0 i), (x1, ())) = ((Sh.mk s101) x0 x1, (x1, ())); rw [show ((mkAt (Sh.mk s192) (Sh.ct s192) x1 x0 i) : (List T192)) = (Sh.mk s101) x0 x1 from by exact mkAt_all (by omega)])) (fun z e => (Option.some.inj e) ▸ (congrArg (fun z => (z, ())) (show ((x1 + ((ctL (Sh.ct s192) (List.take i x0) : Nat) : Int))) = (mkK s101) x0 x1 from by (unfold mkK; rw [take_all (by omega)]; rfl))))

def S_laws_markSink : Sum := { fid := 72, dom := [s103, (.int 3)], cod := [(.int 3)], dp := true, fz := false, pre := fun x => (pMkT s103) x.1 x.2.1, g := fun x => (((mkKT s103) x.1 x.2.1), ()), kinds := [.io, .rd], upd := fun x => ((Sh.mkT s103) x.1 x.2.1, (x.2.1, ())) }
def S_laws_markSink_tab : List (Nat × Sum) := [(37, S_laws_markIntS), (141, S_laws_markDecoderS), (142, S_laws_markGenerationS)]
theorem S_laws_markSink_ok : FnOK Try.prog 72 S_laws_markSink := by
  refine at_enterI 18 [1, 2, 3] [4, 5, 6] (fun us x => ⟨[(0, aG [cI x.1.1, cI x.1.2.1, .sl 1, .sl 2, .sl 3, cI x.1.2.2.2.2.2]), (1, aI x.2.1)], [(1, oR (.int 3) x.1.2.2.1), (2, oR s189 x.1.2.2.2.1), (3, oR s192 x.1.2.2.2.2.1), (4, oP 1 (S_laws_markSink.hd us 0)), (5, oP 2 (S_laws_markSink.hd us 1)), (6, oP 3 (S_laws_markSink.hd us 2))]⟩) Try.func72 rfl (by kernel_rfl) (fun us x => rfl) ?_
  rintro w0 Z0 us ⟨x0, x1, u⟩ L a w
  revert x0 x1
  intro (x0 : T103) (x1 : Int) hio hpre hlens h
  replace h : At w0 Z0 L 18 ⟨[(0, aG [cI x0.1, cI x0.2.1, .sl 1, .sl 2, .sl 3, cI x0.2.2.2.2.2]), (1, aI x1)], [(1, oR (.int 3) x0.2.2.1), (2, oR s189 x0.2.2.2.1), (3, oR s192 x0.2.2.2.2.1), (4, oP 1 (S_laws_markSink.hd us 0)), (5, oP 2 (S_laws_markSink.hd us 1)), (6, oP 3 (S_laws_markSink.hd us 2))]⟩ a w := h
  replace hpre : (pMkT s103) x0 x1 := hpre
  have hl1 : List.length x0.2.2.1 ≤ 9223372036854775807 := hlens.1.2.2.1.1
  have hl2 : List.length x0.2.2.2.1 ≤ 9223372036854775807 := hlens.1.2.2.2.1.1
  have hl3 : List.length x0.2.2.2.2.1 ≤ 9223372036854775807 := hlens.1.2.2.2.2.1.1
  have hT : TabOK Try.prog S_laws_markSink_tab := (.cons S_laws_markIntS_ok (.cons S_laws_markDecoderS_ok (.cons S_laws_markGenerationS_ok .nil)))
  have hp : 0 ≤ x1 ∧ x1 + ((Sh.ctT s103 x0 : Nat) : Int) ≤ 4611686018427387904 := hpre
  have hct0 : Sh.ctT s103 x0 = (0 + (0 + ((Sh.ct s34 x0.2.2.1) + ((Sh.ct s100 x0.2.2.2.1) + ((Sh.ct s101 x0.2.2.2.2.1) + 0))))) := rfl
  refine wp_seq ?_
  refine at_regq (T := S_laws_markSink_tab) [{ ids := [7] }] { ts := [1, 2, 4], os := [1, 2, 3, 4, 5, 6, 7] } [] gamOK hT h (by kernel_rfl) trivial ?_
  intro a w h
  refine then_normal ?_
  refine wp_seq ?_
  refine at_regq (T := S_laws_markSink_tab) [] { ts := [1, 2, 4], os := [1, 2, 3, 4, 5, 6, 7] } [(pMk s34) x0.2.2.1 x1] gamOK hT h (by kernel_rfl) ⟨(by (first | (show (0 : Int) ≤ _ ∧ _ + ((Sh.ct _ _ : Nat) : Int) ≤ (4611686018427387904 : Int); (try simp only [mkK, mkKT]); constructor <;> omega) | (show (0 : Int) ≤ _ ∧ _ + ((Sh.ctT _ _ : Nat) : Int) ≤ (4611686018427387904 : Int); (try simp only [mkK, mkKT]); constructor <;> omega))), trivial⟩ ?_
  intro a w h
  refine then_normal ?_
  refine wp_seq ?_
  refine at_regq (T := S_laws_markSink_tab) [] { ts := [1, 2, 4], os := [1, 2, 3, 4, 5, 6, 7] } [(pMk s100) x0.2.2.2.1 ((mkK s34) x0.2.2.1 x1)] gamOK hT h (by kernel_rfl) ⟨(by (first | (show (0 : Int) ≤ _ ∧ _ + ((Sh.ct _ _ : Nat) : Int) ≤ (4611686018427387904 : Int); (try simp only [mkK, mkKT]); constructor <;> omega) | (show (0 : Int) ≤ _ ∧ _ + ((Sh.ctT _ _ : Nat) : Int) ≤ (4611686018427387904 : Int); (try simp only [mkK, mkKT]); constructor <;> omega))), trivial⟩ ?_
  intro a w h
  refine then_normal ?_
  refine wp_seq ?_
  refine at_reg (T := S_laws_markSink_tab) [] { ts := [1, 4], os := [1, 2, 3, 4, 5, 6] } ⟨[(1, aI ((mkK s101) x0.2.2.2.2.1 ((mkK s100) x0.2.2.2.1 ((mkK s34) x0.2.2.1 x1)))), (4, aI 0)], [(1, oR (.int 3) ((Sh.mk s34) x0.2.2.1 x1)), (2, oR s189 ((Sh.mk s100) x0.2.2.2.1 ((mkK s34) x0.2.2.1 x1))), (3, oR s192 ((Sh.mk s101) x0.2.2.2.2.1 ((mkK s100) x0.2.2.2.1 ((mkK s34) x0.2.2.1 x1)))), (4, oP 1 (S_laws_markSink.hd us 0)), (5, oP 2 (S_laws_markSink.hd us 1)), (6, oP 3 (S_laws_markSink.hd us 2))]⟩ [(pMk s101) x0.2.2.2.2.1 ((mkK s100) x0.2.2.2.1 ((mkK s34) x0.2.2.1 x1))] gamOK hT h (by kernel_rfl) ⟨(by (first | (show (0 : Int) ≤ _ ∧ _ + ((Sh.ct _ _ : Nat) : Int) ≤ (4611686018427387904 : Int); (try simp only [mkK, mkKT]); constructor <;> omega) | (show (0 : Int) ≤ _ ∧ _ + ((Sh.ctT _ _ : Nat) : Int) ≤ (4611686018427387904 : Int); (try simp only [mkK, mkKT]); constructor <;> omega))), trivial⟩ ?_
  intro a w h
  refine then_normal ?_
  refine wp_seq ?_
  refine at_regq (T := S_laws_markSink_tab) [] { ts := [4], os := [1, 2, 3, 4, 5, 6] } [] gamOK hT h (by kernel_rfl) trivial ?_
  intro a w h
  refine then_normal ?_
  refine wp_ret ?_
  exact at_returnI (S := S_laws_markSink) (x := (x0, x1, ())) [1, 2, 3] [4, 5, 6] ((x0.1, (x0.2.1, (((Sh.mk s34) x0.2.2.1 x1), (((Sh.mk s100) x0.2.2.2.1 ((mkK s34) x0.2.2.1 x1)), (((Sh.mk s101) x0.2.2.2.2.1 ((mkK s100) x0.2.2.2.1 ((mkK s34) x0.2.2.1 x1))), x0.2.2.2.2.2))))), (x1, ())) (some (((mkK s101) x0.2.2.2.2.1 ((mkK s100) x0.2.2.2.1 ((mkK s34) x0.2.2.1 x1))), ())) [S_laws_markSink.hd us 0 = S_laws_markSink.hd us 0, S_laws_markSink.hd us 1 = S_laws_markSink.hd us 1, S_laws_markSink.hd us 2 = S_laws_markSink.hd us 2] hio h (by kernel_rfl) ⟨rfl, rfl, rfl, trivial⟩ (by first | rfl | (show ((x0.1, (x0.2.1, (((Sh.mk s34) x0.2.2.1 x1), (((Sh.mk s100) x0.2.2.2.1 ((mkK s34) x0.2.2.1 x1)), (((Sh.mk s101) x0.2.2.2.2.1 ((mkK s100) x0.2.2.2.1 ((mkK s34) x0.2.2.1 x1))), x0.2.2.2.2.2))))), (x1, ())) = ((Sh.mkT s103) x0 x1, (x1, ())); rw [show ((x0.1, (x0.2.1, (((Sh.mk s34) x0.2.2.1 x1), (((Sh.mk s100) x0.2.2.2.1 ((mkK s34) x0.2.2.1 x1)), (((Sh.mk s101) x0.2.2.2.2.1 ((mkK s100) x0.2.2.2.1 ((mkK s34) x0.2.2.1 x1))), x0.2.2.2.2.2))))) : T103) = (Sh.mkT s103) x0 x1 from by show _ = Sh.mkT s103 x0 x1; exact (Prod.ext rfl (Prod.ext rfl (Prod.ext (congrArg (fun k => Sh.mk s34 x0.2.2.1 k) (show (_ : Int) = x1 + ((0 : Nat) : Int) + ((0 : Nat) : Int) from by first | rfl | ((try simp only [mkK, mkKT]); omega))) (Prod.ext (congrArg (fun k => Sh.mk s100 x0.2.2.2.1 k) (show (_ : Int) = x1 + ((0 : Nat) : Int) + ((0 : Nat) : Int) + (((Sh.ct s34 x0.2.2.1) : Nat) : Int) from by first | rfl | ((try simp only [mkK, mkKT]); omega))) (Prod.ext (congrArg (fun k => Sh.mk s101 x0.2.2.2.2.1 k) (show (_ : Int) = x1 + ((0 : Nat) : Int) + ((0 : Nat) : Int) + (((Sh.ct s34 x0.2.2.1) : Nat) : Int) + (((Sh.ct s100 x0.2.2.2.1) : Nat) : Int) from by first | rfl | ((try simp only [mkK, mkKT]); omega))) rfl)))))])) (fun z e => (Option.some.inj e) ▸ (congrArg (fun z => (z, ())) (show (((mkK s101) x0.2.2.2.2.1 ((mkK s100) x0.2.2.2.1 ((mkK s34) x0.2.2.1 x1)))) = (mkKT s103) x0 x1 from by ((try simp only [mkK, mkKT]); omega))))

def S_laws_toIntS : Sum := { fid := 32, dom := [s34], cod := [s34], dp := true, fz := false, pre := fun x => (pTo s34) x.1, g := fun x => (((idD s34) x.1), ()) }
def S_laws_toIntS_tab : List (Nat × Sum) := []
theorem S_laws_toIntS_ok : FnOK Try.prog 32 S_laws_toIntS := by
  refine at_enter 22 (fun x => ⟨[(0, aF (.int 3) x.1)], []⟩) Try.func32 rfl (by kernel_rfl) (fun x => rfl) ?_
  rintro w0 Z0 ⟨x0, u⟩ a w
  revert x0
  intro (x0 : (List Int)) hpre hlens h
  replace h : At w0 Z0 [] 22 ⟨[(0, aF (.int 3) x0)], []⟩ a w := h
  replace hpre : (pTo s34) x0 := hpre
  have hl1 : List.length x0 ≤ 9223372036854775807 := hlens.1.1
  have hT : TabOK Try.prog S_laws_toIntS_tab := .nil
  have hp : Sh.sz s34 x0 ≤ 1048576 := hpre
  have hsz : Sh.sz s34 x0 = List.length x0 + ctL (Sh.sz (.int 3)) x0 := rfl
  refine wp_seq ?_
  refine at_regq (T := S_laws_toIntS_tab) [] { ts := [0, 2], os := [] } [] gamOK hT h (by kernel_rfl) trivial ?_
  intro a w h
  refine then_normal ?_
  refine wp_seq ?_
  refine at_regq (T := S_laws_toIntS_tab) [{}, {}, { ids := [1] }] { ts := [0, 2, 3], os := [1] } [(0 : Int) ≤ ((List.length x0 : Nat) : Int) ∧ ((List.length x0 : Nat) : Int) = ((List.length x0 : Nat) : Int) ∧ ((List.length x0 : Nat) : Int) * (8 : Nat) ≤ (140737488355328 : Int)] gamOK hT h (by kernel_rfl) ⟨(by refine ⟨?_, ?_, ?_⟩ <;> ((have hA0 := mul_f ((List.length x0 : Nat) : Int) (8 : Nat); first | omega | (simp only [List.length_append, List.length_cons, List.length_nil, List.length_set, List.length_take, List.length_drop, List.length_replicate, List.length_map, Nat.min_def, copyTo_len hok0]; omega) | (simp; done) | (simp; omega) | done))), trivial⟩ ?_
  intro a w h
  refine then_normal ?_
  refine wp_seq ?_
  refine wp_seq ?_
  refine at_regq (T := S_laws_toIntS_tab) [] { ts := [0, 2, 3, 4], os := [1] } [] gamOK hT h (by kernel_rfl) trivial ?_
  intro a w h
  refine then_normal ?_
  refine wp_block ?_
  replace h := at_out (σ' := ⟨[(0, aF (.int 3) x0), (2, .p (.c (cN))), (3, aS 1), (4, aI 0)], [(1, oR (.int 3) (List.replicate (List.length x0) 0))]⟩) { ts := [0, 2, 3, 4], os := [1] } h (by kernel_rfl)
  refine at_loop (fun i : Nat => (⟨[(0, aF (.int 3) x0), (2, .p (.c (cN))), (3, aS 1), (4, aI ((i : Nat) : Int))], [(1, oR (.int 3) (copyTo 0 x0 i))]⟩ : St)) (fun i => i ≤ List.length x0) (fun i => List.length x0 - i) (0) h (st_congr2 (fun (d0 : List Int) (d1 : Int) => (⟨[(0, aF (.int 3) x0), (2, .p (.c (cN))), (3, aS 1), (4, aI d1)], [(1, oR (.int 3) d0)]⟩ : St)) (show ((List.replicate (List.length x0) 0) : List Int) = (copyTo 0 x0 (0)) from by first | rfl | (exact copyTo_zero)) (show (0 : Int) = (((0) : Nat) : Int) from by first | rfl | (exact copyTo_zero))) (by first | omega | simp | (refine ⟨?_, ?_⟩ <;> first | omega | simp)) ?_
  intro i a w hok0 h
  refine wp_seq ?_
  refine wp_seq ?_
  refine at_reg (T := S_laws_toIntS_tab) [] { ts := [0, 2, 3, 4, 11], os := [1] } ⟨[(0, aF (.int 3) x0), (2, .p (.c (cN))), (3, aS 1), (4, aI ((i : Nat) : Int)), (11, aB (decide (((i : Nat) : Int) < ((List.length x0 : Nat) : Int))))], [(1, oR (.int 3) (copyTo 0 x0 i))]⟩ [] gamOK hT h (by kernel_rfl) trivial ?_
  intro a w h
  refine then_normal ?_
  refine at_test (decide (((i : Nat) : Int) < ((List.length x0 : Nat) : Int))) h (by kernel_rfl) (fun h1 => ?_) (fun h1 => ?_)
  · replace h1 : ((i : Nat) : Int) < ((List.length x0 : Nat) : Int) := of_decide_eq_true h1
    have hat := ctL_at_le (c := Sh.sz (.int 3)) (xs := x0) (z := 0) (i := i) (by omega)
    refine wp_skip ?_
    refine then_normal ?_
    refine wp_seq ?_
    refine wp_block ?_
    refine at_regq (T := S_laws_toIntS_tab) [] { ts := [0, 2, 3, 4], os := [1] } [(0 : Int) ≤ ((i : Nat) : Int) ∧ ((i : Nat) : Int) < ((List.length x0 : Nat) : Int), (0 : Int) ≤ ((i : Nat) : Int) ∧ ((i : Nat) : Int) < ((List.length (copyTo 0 x0 i) : Nat) : Int), i < List.length (copyTo 0 x0 i)] gamOK hT h (by kernel_rfl) ⟨(by refine ⟨?_, ?_⟩ <;> (first | omega | (simp only [List.length_append, List.length_cons, List.length_nil, List.length_set, List.length_take, List.length_drop, List.length_replicate, List.length_map, Nat.min_def, copyTo_len hok0]; omega) | (simp; done) | (simp; omega) | done)), (by refine ⟨?_, ?_⟩ <;> (first | omega | (simp only [List.length_append, List.length_cons, List.length_nil, List.length_set, List.length_take, List.length_drop, List.length_replicate, List.length_map, Nat.min_def, copyTo_len hok0]; omega) | (simp; done) | (simp; omega) | done)), (by first | omega | (simp only [List.length_append, List.length_cons, List.length_nil, List.length_set, List.length_take, List.length_drop, List.length_replicate, List.length_map, Nat.min_def, copyTo_len hok0]; omega) | (simp; done) | (simp; omega) | done), trivial⟩ ?_
    intro a w h
    refine in_normal ?_
    refine then_normal ?_
    refine at_regq (T := S_laws_toIntS_tab) [{}, { nw := true }] { ts := [0, 2, 3, 4], os := [1] } [I64 (((i : Nat) : Int) + 1)] gamOK hT h (by kernel_rfl) ⟨⟨by first | omega | (simp only [List.length_append, List.length_cons, List.length_nil, List.length_set, List.length_take, List.length_drop, List.length_replicate, List.length_map, Nat.min_def, copyTo_len hok0]; omega) | (simp; done) | (simp; omega) | done, by first | omega | (simp only [List.length_append, List.length_cons, List.length_nil, List.length_set, List.length_take, List.length_drop, List.length_replicate, List.length_map, Nat.min_def, copyTo_len hok0]; omega) | (simp; done) | (simp; omega) | done⟩, trivial⟩ ?_
    intro a w h
    replace h := at_out (σ' := ⟨[(0, aF (.int 3) x0), (2, .p (.c (cN))), (3, aS 1), (4, aI (((i : Nat) : Int) + 1))], [(1, oR (.int 3) (List.set (copyTo 0 x0 i) i (x0.getD i 0)))]⟩) { ts := [0, 2, 3, 4], os := [1] } h (by kernel_rfl)
    exact ⟨i + 1, at_eq h (st_congr2 (fun (d0 : List Int) (d1 : Int) => (⟨[(0, aF (.int 3) x0), (2, .p (.c (cN))), (3, aS 1), (4, aI d1)], [(1, oR (.int 3) d0)]⟩ : St)) (show ((List.set (copyTo 0 x0 i) i (x0.getD i 0)) : List Int) = (copyTo 0 x0 (i + 1)) from by first | rfl | (exact copyTo_set (by omega))) (show (((i : Nat) : Int) + 1 : Int) = (((i + 1) : Nat) : Int) from by first | rfl | (omega))), (by first | omega | (refine ⟨?_, ?_⟩ <;> omega)), (by omega)⟩
  · replace h1 : ¬ (((i : Nat) : Int) < ((List.length x0 : Nat) : Int)) := of_decide_eq_false h1
    refine wp_exit ?_
    refine then_exit ?_
    refine then_exit ?_
    refine in_hit ?_
    refine then_normal ?_
    refine wp_seq ?_
    refine at_regq (T := S_laws_toIntS_tab) [] { ts := [2], os := [1] } [] gamOK hT h (by kernel_rfl) trivial ?_
    intro a w h
    refine then_normal ?_
    refine wp_ret ?_
    exact at_return (S := S_laws_toIntS) (x := (x0, ())) ((copyTo 0 x0 i), ()) [] h (by kernel_rfl) trivial (congrArg (fun z => (z, ())) (show ((copyTo 0 x0 i)) = (idD s34) x0 from by (rw [copyTo_all (by omega)]; rfl)))


def addP (xs : List T114) (p : T114) : List T114 := if xs.length < 40 ∧ (xs.any fun e => Sh.eqB s114 p e) = false then xs ++ [p] else xs
def mergeP (a b : List T114) : List T114 := b.foldl addP a
theorem addP_yes {xs : List T114} {p : T114} (h : xs.length < 40) (h' : (xs.any fun e => Sh.eqB s114 p e) = false) : addP xs p = xs ++ [p] := if_pos ⟨h, h'⟩
theorem addP_has {xs : List T114} {p : T114} (h' : (xs.any fun e => Sh.eqB s114 p e) = true) : addP xs p = xs := if_neg (by rw [h']; simp)
theorem addP_full {xs : List T114} {p : T114} (h : ¬ xs.length < 40) : addP xs p = xs := if_neg (fun e => h e.1)
theorem foldPx_full {xs : List T114} (h : ¬ xs.length < 40) : ∀ ys : List T114, ys.foldl addP xs = xs
  | [] => rfl
  | y :: ys => by rw [List.foldl_cons, addP_full h]; exact foldPx_full h ys
theorem addP_len (xs : List T114) (p : T114) : (addP xs p).length ≤ xs.length + 1 := by unfold addP; split <;> simp
theorem foldPx_len : ∀ (ys xs : List T114), (ys.foldl addP xs).length ≤ xs.length + ys.length
  | [], xs => by simp
  | y :: ys, xs => by have := foldPx_len ys (addP xs y); have := addP_len xs y; simp only [List.foldl_cons, List.length_cons]; omega
theorem foldP_len (xs ys : List T114) (k : Nat) : (foldTo addP xs ys k).length ≤ xs.length + ys.length := by
  have h1 := foldPx_len (ys.take k) xs
  have h2 : (ys.take k).length ≤ ys.length := by simp; omega
  unfold foldTo; omega
theorem foldP_full {xs ys : List T114} {i : Nat} (h : ¬ (foldTo addP xs ys i).length < 40) : mergeP xs ys = foldTo addP xs ys i := by
  unfold mergeP
  have : ys.foldl addP xs = (ys.drop i).foldl addP (foldTo addP xs ys i) := by unfold foldTo; rw [← List.foldl_append, List.take_append_drop]
  rw [this, foldPx_full h]


section
variable {α β : Type}
theorem ctL_filter (c : α → Nat) (p : α → Bool) : ∀ xs : List α, ctL c (xs.filter p) ≤ ctL c xs
  | [] => Nat.le_refl _
  | x :: l => by
    have := ctL_filter c p l
    rw [List.filter_cons]
    split <;> simp only [ctL] <;> omega
theorem eqF_eqL {e : α → α → Bool} : ∀ {xs ys : List α}, eqF e xs ys = eqL e xs ys
  | [], [] => rfl
  | [], _ :: _ => rfl
  | _ :: _, [] => rfl
  | _ :: l, _ :: l' => by simp only [eqF, eqL, eqF_eqL (xs := l)]
/-- the indices of those that are wanted -/
def idxsTo (p : α → Bool) (z : α) (xs : List α) : Nat → List Int
  | 0 => []
  | i + 1 => bif p (xs.getD i z) then idxsTo p z xs i ++ [(i : Int)] else idxsTo p z xs i
theorem idxsTo_len {p : α → Bool} {z : α} {xs : List α} : ∀ {i : Nat}, (idxsTo p z xs i).length ≤ i
  | 0 => Nat.le_refl _
  | i + 1 => by
    have := idxsTo_len (p := p) (z := z) (xs := xs) (i := i)
    simp only [idxsTo]
    cases p (xs.getD i z) <;> simp <;> omega
theorem idxsTo_mem {p : α → Bool} {z : α} {xs : List α} {j : Nat} : ∀ {i : Nat}, ((j : Int) ∈ idxsTo p z xs i) ↔ (j < i ∧ p (xs.getD j z) = true)
  | 0 => by simp [idxsTo]
  | i + 1 => by
    have ih := idxsTo_mem (p := p) (z := z) (xs := xs) (j := j) (i := i)
    simp only [idxsTo]
    cases hp : p (xs.getD i z) with
    | true =>
      rw [cond_true, List.mem_append, ih, List.mem_singleton]
      constructor
      · rintro (h | h)
        · exact ⟨by omega, h.2⟩
        · have : j = i := by omega
          subst this; exact ⟨by omega, hp⟩
      · rintro ⟨h1, h2⟩
        by_cases e : j = i
        · right; rw [e]
        · left; exact ⟨by omega, h2⟩
    | false =>
      rw [cond_false, ih]
      constructor
      · rintro ⟨h1, h2⟩; exact ⟨by omega, h2⟩
      · rintro ⟨h1, h2⟩
        refine ⟨?_, h2⟩
        by_cases e : j = i
        · subst e; rw [hp] at h2; cases h2
        · omega
/-- those whose index is not among ed -/
def remTo (z : α) (xs : List α) (ed : List Int) : Nat → List α
  | 0 => []
  | i + 1 => bif ed.any (fun e => decide ((i : Int) = e)) then remTo z xs ed i else remTo z xs ed i ++ [xs.getD i z]
theorem remTo_len {z : α} {xs : List α} {ed : List Int} : ∀ {i : Nat}, (remTo z xs ed i).length ≤ i
  | 0 => Nat.le_refl _
  | i + 1 => by
    have := remTo_len (z := z) (xs := xs) (ed := ed) (i := i)
    simp only [remTo]
    cases ed.any (fun e => decide ((i : Int) = e)) <;> simp <;> omega
theorem remTo_idxs {p : α → Bool} {z : α} {xs : List α} : ∀ {i n : Nat}, i ≤ n → n ≤ xs.length → remTo z xs (idxsTo p z xs n) i = (xs.take i).filter (fun e => !p e)
  | 0, _, _, _ => by simp [remTo]
  | i + 1, n, h, hn => by
    have ih := remTo_idxs (p := p) (z := z) (xs := xs) (i := i) (n := n) (by omega) hn
    have hm : (idxsTo p z xs n).any (fun e => decide ((i : Int) = e)) = p (xs.getD i z) := by
      rw [Bool.eq_iff_iff, List.any_eq_true]
      constructor
      · rintro ⟨x, hx, he⟩
        have he := of_decide_eq_true he
        rw [← he] at hx
        exact (idxsTo_mem.1 hx).2
      · intro hp
        exact ⟨(i : Int), idxsTo_mem.2 ⟨by omega, hp⟩, by simp⟩
    simp only [remTo, hm, ih]
    cases hp : p (xs.getD i z) with
    | true => rw [cond_true, filter_snoc_f (z := z) (by omega) (by simp only [hp]; rfl)]
    | false => rw [cond_false, filter_snoc_t (z := z) (by omega) (by simp only [hp]; rfl)]
end



def relGens (x : T92) : List Int := x.2.map fun y => y.1
def dropGens (x : T92) (n : Int) : T92 := (x.1, x.2.filter fun y => decide (y.1 ≥ n))

def D_spec_l30Sizes (x0 : (List Int)) : Bool := (if (List.all x0 (fun n => inR n 1 8)) = true then decide (((List.length x0 : Nat) : Int) ≤ 60) else false)
def S_spec_l30Sizes : Sum := { fid := 136, dom := [s34], cod := [(.bool 4)], dp := true, fz := false, pre := fun x => True, g := fun x => ((D_spec_l30Sizes x.1), ()) }
def S_spec_l30Sizes_tab : List (Nat × Sum) := [(135, S_spec_l1In)]
theorem S_spec_l30Sizes_ok : FnOK Try.prog 136 S_spec_l30Sizes := by
  refine at_enter 19 (fun x => ⟨[(0, aF (.int 3) x.1)], []⟩) Try.func136 rfl (by kernel_rfl) (fun x => rfl) ?_
  rintro w0 Z0 ⟨x0, u⟩ a w
  revert x0
  intro (x0 : (List Int)) hpre hlens h
  replace h : At w0 Z0 [] 19 ⟨[(0, aF (.int 3) x0)], []⟩ a w := h
  have hl1 : List.length x0 ≤ 9223372036854775807 := hlens.1.1
  have hT : TabOK Try.prog S_spec_l30Sizes_tab := (.cons S_spec_l1In_ok .nil)
  refine wp_seq ?_
  refine at_regq (T := S_spec_l30Sizes_tab) [] { ts := [0, 2], os := [] } [] gamOK hT h (by kernel_rfl) trivial ?_
  intro a w h
  refine then_normal ?_
  refine wp_seq ?_
  refine wp_seq ?_
  refine at_regq (T := S_spec_l30Sizes_tab) [] { ts := [0, 2, 3], os := [] } [] gamOK hT h (by kernel_rfl) trivial ?_
  intro a w h
  refine then_normal ?_
  refine wp_block ?_
  replace h := at_out (σ' := ⟨[(0, aF (.int 3) x0), (2, aB false), (3, aI 0)], []⟩) { ts := [0, 2, 3], os := [] } h (by kernel_rfl)
  refine at_loop (fun i : Nat => (⟨[(0, aF (.int 3) x0), (2, aB false), (3, aI ((i : Nat) : Int))], []⟩ : St)) (fun i => (i ≤ List.length x0 ∧ allTo1 (fun n => inR n 1 8) x0 0 i)) (fun i => List.length x0 - i) (0) h (st_congr1 (fun (d0 : Int) => (⟨[(0, aF (.int 3) x0), (2, aB false), (3, aI d0)], []⟩ : St)) (show (0 : Int) = (((0) : Nat) : Int) from by first | rfl | (rfl))) (by exact ⟨Nat.zero_le _, allTo1_zero⟩) ?_
  intro i a w hok0 h
  refine wp_seq ?_
  refine wp_seq ?_
  refine at_regq (T := S_spec_l30Sizes_tab) [] { ts := [0, 2, 3, 7], os := [] } [] gamOK hT h (by kernel_rfl) trivial ?_
  intro a w h
  refine then_normal ?_
  refine at_test (decide (((i : Nat) : Int) < ((List.length x0 : Nat) : Int))) h (by kernel_rfl) (fun h1 => ?_) (fun h1 => ?_)
  · replace h1 : ((i : Nat) : Int) < ((List.length x0 : Nat) : Int) := of_decide_eq_true h1
    refine wp_skip ?_
    refine then_normal ?_
    refine wp_seq ?_
    refine wp_block ?_
    refine wp_seq ?_
    refine at_reg (T := S_spec_l30Sizes_tab) [] { ts := [0, 2, 3, 15], os := [] } ⟨[(0, aF (.int 3) x0), (2, aB false), (3, aI ((i : Nat) : Int)), (15, aB (!(inR (x0.getD i 0) 1 8)))], []⟩ [(0 : Int) ≤ ((i : Nat) : Int) ∧ ((i : Nat) : Int) < ((List.length x0 : Nat) : Int), True] gamOK hT h (by kernel_rfl) ⟨(by refine ⟨?_, ?_⟩ <;> (first | omega | (simp only [List.length_append, List.length_cons, List.length_nil, List.length_set, List.length_take, List.length_drop, List.length_replicate, List.length_map, Nat.min_def]; omega) | (simp; done) | (simp; omega) | done)), trivial, trivial⟩ ?_
    intro a w h
    refine then_normal ?_
    refine at_test (!(inR (x0.getD i 0) 1 8)) h (by kernel_rfl) (fun h2 => ?_) (fun h2 => ?_)
    · replace h2 : (inR (x0.getD i 0) 1 8) = false := notT h2
      have hvh2 := inR_f h2
      refine wp_seq ?_
      refine at_regq (T := S_spec_l30Sizes_tab) [] { ts := [0, 2, 3], os := [] } [] gamOK hT h (by kernel_rfl) trivial ?_
      intro a w h
      refine then_normal ?_
      refine wp_ret ?_
      refine in_ret ?_
      refine then_ret ?_
      have hs3 : (List.all x0 (fun n => inR n 1 8)) = false := by exact all_at (z := 0) (i := i) (by omega) (by first | assumption | (simp_all; done))
      refine then_ret ?_
      refine in_ret ?_
      refine then_ret ?_
      exact at_return (S := S_spec_l30Sizes) (x := (x0, ())) (false, ()) [] h (by kernel_rfl) trivial (congrArg (fun z => (z, ())) (show (false) = D_spec_l30Sizes x0 from by first | rfl | (unfold D_spec_l30Sizes; rw [if_neg (neT hs3)])))
    · replace h2 : (inR (x0.getD i 0) 1 8) = true := notF h2
      have hvh2 := inR_t h2
      refine wp_skip ?_
      refine in_normal ?_
      refine then_normal ?_
      refine at_regq (T := S_spec_l30Sizes_tab) [{}, { nw := true }] { ts := [0, 2, 3], os := [] } [I64 (((i : Nat) : Int) + 1)] gamOK hT h (by kernel_rfl) ⟨⟨by first | omega | (simp only [List.length_append, List.length_cons, List.length_nil, List.length_set, List.length_take, List.length_drop, List.length_replicate, List.length_map, Nat.min_def]; omega) | (simp; done) | (simp; omega) | done, by first | omega | (simp only [List.length_append, List.length_cons, List.length_nil, List.length_set, List.length_take, List.length_drop, List.length_replicate, List.length_map, Nat.min_def]; omega) | (simp; done) | (simp; omega) | done⟩, trivial⟩ ?_
      intro a w h
      replace h := at_out (σ' := ⟨[(0, aF (.int 3) x0), (2, aB false), (3, aI (((i : Nat) : Int) + 1))], []⟩) { ts := [0, 2, 3], os := [] } h (by kernel_rfl)
      exact ⟨i + 1, at_eq h (st_congr1 (fun (d0 : Int) => (⟨[(0, aF (.int 3) x0), (2, aB false), (3, aI d0)], []⟩ : St)) (show (((i : Nat) : Int) + 1 : Int) = (((i + 1) : Nat) : Int) from by first | rfl | (omega))), (by exact ⟨by omega, allTo1_succ hok0.2 (by first | assumption | (simp_all; done))⟩), (by omega)⟩
  · replace h1 : ¬ (((i : Nat) : Int) < ((List.length x0 : Nat) : Int)) := of_decide_eq_false h1
    refine wp_exit ?_
    refine then_exit ?_
    have hs4 : (List.all x0 (fun n => inR n 1 8)) = true := by exact all_of (z := 0) (i := i) (by omega) hok0.2
    refine then_exit ?_
    refine in_hit ?_
    refine then_normal ?_
    refine wp_seq ?_
    refine at_reg (T := S_spec_l30Sizes_tab) [] { ts := [2], os := [] } ⟨[(2, aB (decide (((List.length x0 : Nat) : Int) ≤ 60)))], []⟩ [] gamOK hT h (by kernel_rfl) trivial ?_
    intro a w h
    refine then_normal ?_
    refine wp_ret ?_
    exact at_return (S := S_spec_l30Sizes) (x := (x0, ())) (decide (((List.length x0 : Nat) : Int) ≤ 60), ()) [] h (by kernel_rfl) trivial (congrArg (fun z => (z, ())) (show (decide (((List.length x0 : Nat) : Int) ≤ 60)) = D_spec_l30Sizes x0 from by first | rfl | (unfold D_spec_l30Sizes; rw [if_pos hs4])))

def D_impl_NewSink_1 := (fun n => !inR n 1 8)
def S_impl_NewSink_1 : Sum := { fid := 137, dom := [(.int 3)], cod := [(.bool 4)], dp := true, fz := false, pre := fun x => True, g := fun x => ((D_impl_NewSink_1 x.1), ()) }
def S_impl_NewSink_1_tab : List (Nat × Sum) := [(103, S_impl_InRange)]
theorem S_impl_NewSink_1_ok : FnOK Try.prog 137 S_impl_NewSink_1 := by
  refine at_enter 6 (fun x => ⟨[(0, aI x.1)], []⟩) Try.func137 rfl (by kernel_rfl) (fun x => rfl) ?_
  rintro w0 Z0 ⟨x0, u⟩ a w
  revert x0
  intro (x0 : Int) hpre hlens h
  replace h : At w0 Z0 [] 6 ⟨[(0, aI x0)], []⟩ a w := h
  have hT : TabOK Try.prog S_impl_NewSink_1_tab := (.cons S_impl_InRange_ok .nil)
  refine wp_seq ?_
  refine at_regq (T := S_impl_NewSink_1_tab) [] { ts := [0, 2], os := [] } [] gamOK hT h (by kernel_rfl) trivial ?_
  intro a w h
  refine then_normal ?_
  refine wp_seq ?_
  refine at_regq (T := S_impl_NewSink_1_tab) [] { ts := [2], os := [] } [True] gamOK hT h (by kernel_rfl) ⟨trivial, trivial⟩ ?_
  intro a w h
  refine then_normal ?_
  refine wp_ret ?_
  exact at_return (S := S_impl_NewSink_1) (x := (x0, ())) (!(inR x0 1 8), ()) [] h (by kernel_rfl) trivial (congrArg (fun z => (z, ())) (show (!(inR x0 1 8)) = D_impl_NewSink_1 x0 from by unfold D_impl_NewSink_1; rfl))

def D_slices_IndexFunc_S_int_int__NewSink_1 := (fun (xs : List Int) (cap : Unit) => idxF (fun e => !inR e 1 8) xs)
def S_slices_IndexFunc_S_int_int__NewSink_1 : Sum := { fid := 154, dom := [s34, (.fn0 137)], cod := [(.int 3)], dp := true, fz := false, pre := fun x => True, g := fun x => ((D_slices_IndexFunc_S_int_int__NewSink_1 x.1 x.2.1), ()) }
def S_slices_IndexFunc_S_int_int__NewSink_1_tab : List (Nat × Sum) := [(137, S_impl_NewSink_1)]
theorem S_slices_IndexFunc_S_int_int__NewSink_1_ok : FnOK Try.prog 154 S_slices_IndexFunc_S_int_int__NewSink_1 := by
  refine at_enter 19 (fun x => ⟨[(0, aF (.int 3) x.1), (1, .p (.c (.cl 137 .cnil)))], []⟩) Try.func154 rfl (by kernel_rfl) (fun x => rfl) ?_
  rintro w0 Z0 ⟨x0, x1, u⟩ a w
  revert x0 x1
  intro (x0 : (List Int)) (x1 : Unit) hpre hlens h
  replace h : At w0 Z0 [] 19 ⟨[(0, aF (.int 3) x0), (1, .p (.c (.cl 137 .cnil)))], []⟩ a w := h
  have hl1 : List.length x0 ≤ 9223372036854775807 := hlens.1.1
  have hT : TabOK Try.prog S_slices_IndexFunc_S_int_int__NewSink_1_tab := (.cons S_impl_NewSink_1_ok .nil)
  refine wp_seq ?_
  refine at_regq (T := S_slices_IndexFunc_S_int_int__NewSink_1_tab) [] { ts := [0, 1, 4], os := [] } [] gamOK hT h (by kernel_rfl) trivial ?_
  intro a w h
  refine then_normal ?_
  refine wp_seq ?_
  refine wp_seq ?_
  refine at_regq (T := S_slices_IndexFunc_S_int_int__NewSink_1_tab) [] { ts := [0, 1, 4, 7, 8], os := [] } [] gamOK hT h (by kernel_rfl) trivial ?_
  intro a w h
  refine then_normal ?_
  refine wp_block ?_
  replace h := at_out (σ' := ⟨[(0, aF (.int 3) x0), (1, .p (.c (.cl 137 .cnil))), (4, aI 0), (7, aI ((List.length x0 : Nat) : Int)), (8, aI 0)], []⟩) { ts := [0, 1, 4, 7, 8], os := [] } h (by kernel_rfl)
  refine at_loop (fun i : Nat => (⟨[(0, aF (.int 3) x0), (1, .p (.c (.cl 137 .cnil))), (4, aI 0), (7, aI ((List.length x0 : Nat) : Int)), (8, aI ((i : Nat) : Int))], []⟩ : St)) (fun i => (i ≤ List.length x0 ∧ noneTo (fun e => !inR e 1 8) x0 0 i)) (fun i => List.length x0 - i) (0) h (st_congr1 (fun (d0 : Int) => (⟨[(0, aF (.int 3) x0), (1, .p (.c (.cl 137 .cnil))), (4, aI 0), (7, aI ((List.length x0 : Nat) : Int)), (8, aI d0)], []⟩ : St)) (show (0 : Int) = (((0) : Nat) : Int) from by first | rfl | (rfl))) (by exact ⟨Nat.zero_le _, noneTo_zero⟩) ?_
  intro i a w hok0 h
  refine wp_seq ?_
  refine at_regq (T := S_slices_IndexFunc_S_int_int__NewSink_1_tab) [] { ts := [0, 1, 4, 7, 8, 9], os := [] } [] gamOK hT h (by kernel_rfl) trivial ?_
  intro a w h
  refine then_normal ?_
  refine wp_seq ?_
  refine at_test (decide (((i : Nat) : Int) < ((List.length x0 : Nat) : Int))) h (by kernel_rfl) (fun h1 => ?_) (fun h1 => ?_)
  · replace h1 : ((i : Nat) : Int) < ((List.length x0 : Nat) : Int) := of_decide_eq_true h1
    refine wp_skip ?_
    refine then_normal ?_
    refine wp_seq ?_
    refine wp_block ?_
    refine wp_seq ?_
    refine at_reg (T := S_slices_IndexFunc_S_int_int__NewSink_1_tab) [] { ts := [0, 1, 4, 5, 7, 8], os := [] } ⟨[(0, aF (.int 3) x0), (1, .p (.c (.cl 137 .cnil))), (4, aI 0), (5, aI ((i : Nat) : Int)), (7, aI ((List.length x0 : Nat) : Int)), (8, aI ((i : Nat) : Int))], []⟩ [] gamOK hT h (by kernel_rfl) trivial ?_
    intro a w h
    refine then_normal ?_
    refine wp_seq ?_
    refine at_regq (T := S_slices_IndexFunc_S_int_int__NewSink_1_tab) [] { ts := [0, 1, 4, 5, 7, 8, 16], os := [] } [(0 : Int) ≤ ((i : Nat) : Int) ∧ ((i : Nat) : Int) < ((List.length x0 : Nat) : Int), True] gamOK hT h (by kernel_rfl) ⟨(by refine ⟨?_, ?_⟩ <;> (first | omega | (simp only [List.length_append, List.length_cons, List.length_nil, List.length_set, List.length_take, List.length_drop, List.length_replicate, List.length_map, Nat.min_def]; omega) | (simp; done) | (simp; omega) | done)), trivial, trivial⟩ ?_
    intro a w h
    refine then_normal ?_
    refine at_test ((D_impl_NewSink_1 (x0.getD i 0))) h (by kernel_rfl) (fun h2 => ?_) (fun h2 => ?_)
    · refine wp_seq ?_
      refine at_regq (T := S_slices_IndexFunc_S_int_int__NewSink_1_tab) [] { ts := [0, 1, 4, 7, 8], os := [] } [] gamOK hT h (by kernel_rfl) trivial ?_
      intro a w h
      refine then_normal ?_
      refine wp_ret ?_
      refine in_ret ?_
      refine then_ret ?_
      refine then_ret ?_
      refine in_ret ?_
      refine then_ret ?_
      exact at_return (S := S_slices_IndexFunc_S_int_int__NewSink_1) (x := (x0, x1, ())) (((i : Nat) : Int), ()) [] h (by kernel_rfl) trivial (congrArg (fun z => (z, ())) (show (((i : Nat) : Int)) = D_slices_IndexFunc_S_int_int__NewSink_1 x0 x1 from by unfold D_slices_IndexFunc_S_int_int__NewSink_1; exact (idxF_at (z := 0) (by omega) hok0.2 h2).symm))
    · refine wp_skip ?_
      refine in_normal ?_
      refine then_normal ?_
      refine at_regq (T := S_slices_IndexFunc_S_int_int__NewSink_1_tab) [{ nw := true }] { ts := [0, 1, 4, 7, 8], os := [] } [I64 (((i : Nat) : Int) + 1)] gamOK hT h (by kernel_rfl) ⟨⟨by first | omega | (simp only [List.length_append, List.length_cons, List.length_nil, List.length_set, List.length_take, List.length_drop, List.length_replicate, List.length_map, Nat.min_def]; omega) | (simp; done) | (simp; omega) | done, by first | omega | (simp only [List.length_append, List.length_cons, List.length_nil, List.length_set, List.length_take, List.length_drop, List.length_replicate, List.length_map, Nat.min_def]; omega) | (simp; done) | (simp; omega) | done⟩, trivial⟩ ?_
      intro a w h
      replace h := at_out (σ' := ⟨[(0, aF (.int 3) x0), (1, .p (.c (.cl 137 .cnil))), (4, aI 0), (7, aI ((List.length x0 : Nat) : Int)), (8, aI (((i : Nat) : Int) + 1))], []⟩) { ts := [0, 1, 4, 7, 8], os := [] } h (by kernel_rfl)
      exact ⟨i + 1, at_eq h (st_congr1 (fun (d0 : Int) => (⟨[(0, aF (.int 3) x0), (1, .p (.c (.cl 137 .cnil))), (4, aI 0), (7, aI ((List.length x0 : Nat) : Int)), (8, aI d0)], []⟩ : St)) (show (((i : Nat) : Int) + 1 : Int) = (((i + 1) : Nat) : Int) from by first | rfl | (omega))), (by exact ⟨by omega, noneTo_succ hok0.2 h2⟩), (by omega)⟩
  · replace h1 : ¬ (((i : Nat) : Int) < ((List.length x0 : Nat) : Int)) := of_decide_eq_false h1
    refine wp_exit ?_
    refine then_exit ?_
    refine then_exit ?_
    refine in_hit ?_
    refine then_normal ?_
    refine wp_seq ?_
    refine at_reg (T := S_slices_IndexFunc_S_int_int__NewSink_1_tab) [] { ts := [4], os := [] } ⟨[(4, aI (-1))], []⟩ [] gamOK hT h (by kernel_rfl) trivial ?_
    intro a w h
    refine then_normal ?_
    refine wp_ret ?_
    exact at_return (S := S_slices_IndexFunc_S_int_int__NewSink_1) (x := (x0, x1, ())) ((-1), ()) [] h (by kernel_rfl) trivial (congrArg (fun z => (z, ())) (show ((-1)) = D_slices_IndexFunc_S_int_int__NewSink_1 x0 x1 from by unfold D_slices_IndexFunc_S_int_int__NewSink_1; exact (idxF_none (z := 0) (by omega) hok0.2).symm))

def D_slices_ContainsFunc_S_int_int__NewSink_1 := (fun (xs : List Int) (cap : Unit) => xs.any fun e => !inR e 1 8)
def S_slices_ContainsFunc_S_int_int__NewSink_1 : Sum := { fid := 95, dom := [s34, (.fn0 137)], cod := [(.bool 4)], dp := true, fz := false, pre := fun x => True, g := fun x => ((D_slices_ContainsFunc_S_int_int__NewSink_1 x.1 x.2.1), ()) }
def S_slices_ContainsFunc_S_int_int__NewSink_1_tab : List (Nat × Sum) := [(100003, S_slices_IndexFunc_S_int_int__NewSink_1)]
theorem S_slices_ContainsFunc_S_int_int__NewSink_1_ok : FnOK Try.prog 95 S_slices_ContainsFunc_S_int_int__NewSink_1 := by
  refine at_enter 9 (fun x => ⟨[(0, aF (.int 3) x.1), (1, .p (.c (.cl 137 .cnil)))], []⟩) Try.func95 rfl (by kernel_rfl) (fun x => rfl) ?_
  rintro w0 Z0 ⟨x0, x1, u⟩ a w
  revert x0 x1
  intro (x0 : (List Int)) (x1 : Unit) hpre hlens h
  replace h : At w0 Z0 [] 9 ⟨[(0, aF (.int 3) x0), (1, .p (.c (.cl 137 .cnil)))], []⟩ a w := h
  have hl1 : List.length x0 ≤ 9223372036854775807 := hlens.1.1
  have hT : TabOK Try.prog S_slices_ContainsFunc_S_int_int__NewSink_1_tab := (.cons S_slices_IndexFunc_S_int_int__NewSink_1_ok .nil)
  refine wp_seq ?_
  refine at_regq (T := S_slices_ContainsFunc_S_int_int__NewSink_1_tab) [] { ts := [0, 1, 4], os := [] } [] gamOK hT h (by kernel_rfl) trivial ?_
  intro a w h
  refine then_normal ?_
  refine wp_seq ?_
  refine at_regq (T := S_slices_ContainsFunc_S_int_int__NewSink_1_tab) [{}, {}, { key := some 100003 }] { ts := [4], os := [] } [True] gamOK hT h (by kernel_rfl) ⟨trivial, trivial⟩ ?_
  intro a w h
  refine then_normal ?_
  refine wp_ret ?_
  exact at_return (S := S_slices_ContainsFunc_S_int_int__NewSink_1) (x := (x0, x1, ())) (decide ((D_slices_IndexFunc_S_int_int__NewSink_1 x0 ()) ≥ 0), ()) [] h (by kernel_rfl) trivial (congrArg (fun z => (z, ())) (show (decide ((D_slices_IndexFunc_S_int_int__NewSink_1 x0 ()) ≥ 0)) = D_slices_ContainsFunc_S_int_int__NewSink_1 x0 x1 from by unfold D_slices_ContainsFunc_S_int_int__NewSink_1; exact idxF_any))

def newSink (x0 : Int) (x1 : Int) (x2 : (List Int)) : T103 := (if (inR x0 0 7) = true then (if (inR x1 1 16) = true then (if ((List.length x2 : Nat) : Int) > 60 then (0, (0, (([] : List Int), (([] : List T189), (([] : List T192), 0))))) else (if (D_slices_ContainsFunc_S_int_int__NewSink_1 x2 ()) = true then (0, (0, (([] : List Int), (([] : List T189), (([] : List T192), 0))))) else (x0, (x1, (x2, (([] : List T189), (([] : List T192), 0))))))) else (0, (0, (([] : List Int), (([] : List T189), (([] : List T192), 0)))))) else (0, (0, (([] : List Int), (([] : List T189), (([] : List T192), 0))))))
def S_impl_NewSink : Sum := { fid := 70, dom := [(.int 3), (.int 3), s34], cod := [s103], dp := true, fz := false, pre := fun x => (fun (x0 : Int) (x1 : Int) (x2 : (List Int)) => Sh.fit s34 x2) x.1 x.2.1 x.2.2.1, g := fun x => ((newSink x.1 x.2.1 x.2.2.1), ()) }
def S_impl_NewSink_tab : List (Nat × Sum) := [(103, S_impl_InRange), (100004, S_slices_ContainsFunc_S_int_int__NewSink_1), (138, S_slices_Clone_S_int_int_)]
theorem S_impl_NewSink_ok : FnOK Try.prog 70 S_impl_NewSink := by
  refine at_enter 29 (fun x => ⟨[(0, aI x.1), (1, aI x.2.1), (2, aF (.int 3) x.2.2.1)], []⟩) Try.func70 rfl (by kernel_rfl) (fun x => rfl) ?_
  rintro w0 Z0 ⟨x0, x1, x2, u⟩ a w
  revert x0 x1 x2
  intro (x0 : Int) (x1 : Int) (x2 : (List Int)) hpre hlens h
  replace h : At w0 Z0 [] 29 ⟨[(0, aI x0), (1, aI x1), (2, aF (.int 3) x2)], []⟩ a w := h
  replace hpre : (fun (x0 : Int) (x1 : Int) (x2 : (List Int)) => Sh.fit s34 x2) x0 x1 x2 := hpre
  have hl1 : List.length x2 ≤ 9223372036854775807 := hlens.2.2.1.1
  have hT : TabOK Try.prog S_impl_NewSink_tab := (.cons S_impl_InRange_ok (.cons S_slices_ContainsFunc_S_int_int__NewSink_1_ok (.cons S_slices_Clone_S_int_int__ok .nil)))
  have hf2 := hpre
  have hn2_1 : List.length x2 ≤ 1073741824 := hf2.1
  refine wp_seq ?_
  refine at_regq (T := S_impl_NewSink_tab) [{ ids := [1] }] { ts := [0, 1, 2, 6], os := [1] } [] gamOK hT h (by kernel_rfl) trivial ?_
  intro a w h
  refine then_normal ?_
  refine wp_seq ?_
  refine wp_seq ?_
  rcases Bool.eq_false_or_eq_true (!(inR x0 0 7)) with h1 | h1
  · skip
    have hvh1 := inR_f (notT h1)
    refine at_regq (T := S_impl_NewSink_tab) [{}, {}, { hint := some (aB true) }] { ts := [0, 1, 2, 6, 19], os := [1] } [True, (AV.p (.c (.v (.bool (!(inR x0 0 7))))) = AV.p (.c (.v (.bool true))))] gamOK hT h (by kernel_rfl) ⟨trivial, hint_bool (h1), trivial⟩ ?_
    intro a w h
    refine then_normal ?_
    refine at_test true h (by kernel_rfl) (fun hh => ?_) (fun hh => nomatch hh)
    refine wp_seq ?_
    refine at_regq (T := S_impl_NewSink_tab) [] { ts := [0, 1, 2, 6], os := [1] } [] gamOK hT h (by kernel_rfl) trivial ?_
    intro a w h
    refine then_normal ?_
    refine wp_ret ?_
    refine then_ret ?_
    exact at_return (S := S_impl_NewSink) (x := (x0, x1, x2, ())) ((0, (0, (([] : List Int), (([] : List T189), (([] : List T192), 0))))), ()) [] h (by kernel_rfl) trivial (congrArg (fun z => (z, ())) (show ((0, (0, (([] : List Int), (([] : List T189), (([] : List T192), 0)))))) = newSink x0 x1 x2 from by first | rfl | (unfold newSink; rw [if_neg (neT (notT h1))])))
  · skip
    have hvh1 := inR_t (notF h1)
    rcases Bool.eq_false_or_eq_true (!(inR x1 1 16)) with h2 | h2
    · skip
      have hvh2 := inR_f (notT h2)
      refine at_regq (T := S_impl_NewSink_tab) [{}, {}, { hint := some (aB false) }, {}, {}, {}, { hint := some (aB true) }] { ts := [0, 1, 2, 6, 19], os := [1] } [True, (AV.p (.c (.v (.bool (!(inR x0 0 7))))) = AV.p (.c (.v (.bool false)))), True, (AV.p (.c (.v (.bool (!(inR x1 1 16))))) = AV.p (.c (.v (.bool true))))] gamOK hT h (by kernel_rfl) ⟨trivial, hint_bool (h1), trivial, hint_bool (h2), trivial⟩ ?_
      intro a w h
      refine then_normal ?_
      refine at_test true h (by kernel_rfl) (fun hh => ?_) (fun hh => nomatch hh)
      refine wp_seq ?_
      refine at_regq (T := S_impl_NewSink_tab) [] { ts := [0, 1, 2, 6], os := [1] } [] gamOK hT h (by kernel_rfl) trivial ?_
      intro a w h
      refine then_normal ?_
      refine wp_ret ?_
      refine then_ret ?_
      exact at_return (S := S_impl_NewSink) (x := (x0, x1, x2, ())) ((0, (0, (([] : List Int), (([] : List T189), (([] : List T192), 0))))), ()) [] h (by kernel_rfl) trivial (congrArg (fun z => (z, ())) (show ((0, (0, (([] : List Int), (([] : List T189), (([] : List T192), 0)))))) = newSink x0 x1 x2 from by first | rfl | (unfold newSink; rw [if_pos (notF h1), if_neg (neT (notT h2))])))
    · skip
      have hvh2 := inR_t (notF h2)
      refine at_regq (T := S_impl_NewSink_tab) [{}, {}, { hint := some (aB false) }, {}, {}, {}, { hint := some (aB false) }] { ts := [0, 1, 2, 6, 19], os := [1] } [True, (AV.p (.c (.v (.bool (!(inR x0 0 7))))) = AV.p (.c (.v (.bool false)))), True, (AV.p (.c (.v (.bool (!(inR x1 1 16))))) = AV.p (.c (.v (.bool false))))] gamOK hT h (by kernel_rfl) ⟨trivial, hint_bool (h1), trivial, hint_bool (h2), trivial⟩ ?_
      intro a w h
      refine then_normal ?_
      refine at_test (decide (((List.length x2 : Nat) : Int) > 60)) h (by kernel_rfl) (fun h3 => ?_) (fun h3 => ?_)
      · replace h3 : ((List.length x2 : Nat) : Int) > 60 := of_decide_eq_true h3
        refine wp_seq ?_
        refine at_regq (T := S_impl_NewSink_tab) [] { ts := [0, 1, 2, 6], os := [1] } [] gamOK hT h (by kernel_rfl) trivial ?_
        intro a w h
        refine then_normal ?_
        refine wp_ret ?_
        refine then_ret ?_
        exact at_return (S := S_impl_NewSink) (x := (x0, x1, x2, ())) ((0, (0, (([] : List Int), (([] : List T189), (([] : List T192), 0))))), ()) [] h (by kernel_rfl) trivial (congrArg (fun z => (z, ())) (show ((0, (0, (([] : List Int), (([] : List T189), (([] : List T192), 0)))))) = newSink x0 x1 x2 from by first | rfl | (unfold newSink; rw [if_pos (notF h1), if_pos (notF h2), if_pos h3])))
      · replace h3 : ¬ (((List.length x2 : Nat) : Int) > 60) := of_decide_eq_false h3
        refine wp_skip ?_
        refine then_normal ?_
        refine wp_seq ?_
        refine wp_seq ?_
        refine at_regq (T := S_impl_NewSink_tab) [{}, { key := some 100004 }] { ts := [0, 1, 2, 6, 22], os := [1] } [True] gamOK hT h (by kernel_rfl) ⟨trivial, trivial⟩ ?_
        intro a w h
        refine then_normal ?_
        refine at_test ((D_slices_ContainsFunc_S_int_int__NewSink_1 x2 ())) h (by kernel_rfl) (fun h4 => ?_) (fun h4 => ?_)
        · refine wp_seq ?_
          refine at_reg (T := S_impl_NewSink_tab) [] { ts := [0, 1, 2, 6], os := [1] } ⟨[(0, aI x0), (1, aI x1), (2, aF (.int 3) x2), (6, aP 1 0)], [(1, oX 103 [cI 0, cI 0, cN, cN, cN, cI 0])]⟩ [] gamOK hT h (by kernel_rfl) trivial ?_
          intro a w h
          refine then_normal ?_
          refine wp_ret ?_
          refine then_ret ?_
          exact at_return (S := S_impl_NewSink) (x := (x0, x1, x2, ())) ((0, (0, (([] : List Int), (([] : List T189), (([] : List T192), 0))))), ()) [] h (by kernel_rfl) trivial (congrArg (fun z => (z, ())) (show ((0, (0, (([] : List Int), (([] : List T189), (([] : List T192), 0)))))) = newSink x0 x1 x2 from by first | rfl | (unfold newSink; rw [if_pos (notF h1), if_pos (notF h2), if_neg h3, if_pos h4])))
        · refine wp_skip ?_
          refine then_normal ?_
          refine wp_seq ?_
          refine at_reg (T := S_impl_NewSink_tab) [{}, {}, {}, { ids := [2] }] { ts := [6], os := [1, 2] } ⟨[(6, aP 1 0)], [(1, oX 103 [cI x0, cI x1, .sl 2, cN, cN, cI 0]), (2, oR (.int 3) x2)]⟩ [(lenOK (α := Int)) x2] gamOK hT h (by kernel_rfl) ⟨(by first | assumption | trivial | (first | omega | (simp only [List.length_append, List.length_cons, List.length_nil, List.length_set, List.length_take, List.length_drop, List.length_replicate, List.length_map, Nat.min_def]; omega) | (simp; done) | (simp; omega) | done)), trivial⟩ ?_
          intro a w h
          refine then_normal ?_
          refine wp_ret ?_
          exact at_return (S := S_impl_NewSink) (x := (x0, x1, x2, ())) ((x0, (x1, (x2, (([] : List T189), (([] : List T192), 0))))), ()) [] h (by kernel_rfl) trivial (congrArg (fun z => (z, ())) (show ((x0, (x1, (x2, (([] : List T189), (([] : List T192), 0)))))) = newSink x0 x1 x2 from by first | rfl | (unfold newSink; rw [if_pos (notF h1), if_pos (notF h2), if_neg h3, if_neg (neT h4)])))

def S_spec_NewSink : Sum := { fid := 69, dom := [(.int 3), (.int 3), s34], cod := [s103], dp := true, fz := false, pre := fun x => (fun (x0 : Int) (x1 : Int) (x2 : (List Int)) => Sh.fit s34 x2) x.1 x.2.1 x.2.2.1, g := fun x => ((newSink x.1 x.2.1 x.2.2.1), ()) }
def S_spec_NewSink_tab : List (Nat × Sum) := [(135, S_spec_l1In), (136, S_spec_l30Sizes)]
theorem S_spec_NewSink_ok : FnOK Try.prog 69 S_spec_NewSink := by
  refine at_enter 27 (fun x => ⟨[(0, aI x.1), (1, aI x.2.1), (2, aF (.int 3) x.2.2.1)], []⟩) Try.func69 rfl (by kernel_rfl) (fun x => rfl) ?_
  rintro w0 Z0 ⟨x0, x1, x2, u⟩ a w
  revert x0 x1 x2
  intro (x0 : Int) (x1 : Int) (x2 : (List Int)) hpre hlens h
  replace h : At w0 Z0 [] 27 ⟨[(0, aI x0), (1, aI x1), (2, aF (.int 3) x2)], []⟩ a w := h
  replace hpre : (fun (x0 : Int) (x1 : Int) (x2 : (List Int)) => Sh.fit s34 x2) x0 x1 x2 := hpre
  have hl1 : List.length x2 ≤ 9223372036854775807 := hlens.2.2.1.1
  have hT : TabOK Try.prog S_spec_NewSink_tab := (.cons S_spec_l1In_ok (.cons S_spec_l30Sizes_ok .nil))
  have hf2 := hpre
  have hn2_1 : List.length x2 ≤ 1073741824 := hf2.1
  refine wp_seq ?_
  refine at_regq (T := S_spec_NewSink_tab) [{ ids := [1] }] { ts := [0, 1, 2, 6], os := [1] } [] gamOK hT h (by kernel_rfl) trivial ?_
  intro a w h
  refine then_normal ?_
  refine wp_seq ?_
  refine wp_seq ?_
  rcases Bool.eq_false_or_eq_true (!(inR x0 0 7)) with h1 | h1
  · skip
    have hvh1 := inR_f (notT h1)
    refine at_regq (T := S_spec_NewSink_tab) [{}, {}, { hint := some (aB true) }] { ts := [0, 1, 2, 6, 19], os := [1] } [True, (AV.p (.c (.v (.bool (!(inR x0 0 7))))) = AV.p (.c (.v (.bool true))))] gamOK hT h (by kernel_rfl) ⟨trivial, hint_bool (h1), trivial⟩ ?_
    intro a w h
    refine then_normal ?_
    refine at_test true h (by kernel_rfl) (fun hh => ?_) (fun hh => nomatch hh)
    refine wp_seq ?_
    refine at_regq (T := S_spec_NewSink_tab) [] { ts := [0, 1, 2, 6], os := [1] } [] gamOK hT h (by kernel_rfl) trivial ?_
    intro a w h
    refine then_normal ?_
    refine wp_ret ?_
    refine then_ret ?_
    exact at_return (S := S_spec_NewSink) (x := (x0, x1, x2, ())) ((0, (0, (([] : List Int), (([] : List T189), (([] : List T192), 0))))), ()) [] h (by kernel_rfl) trivial (congrArg (fun z => (z, ())) (show ((0, (0, (([] : List Int), (([] : List T189), (([] : List T192), 0)))))) = newSink x0 x1 x2 from by first | rfl | (unfold newSink; rw [if_neg (neT (notT h1))]; done) | (unfold newSink; (repeat (first | rfl | split)) <;> (first | rfl | omega | (simp_all [-List.all_eq_true, -List.any_eq_true, -List.all_eq_false, -List.any_eq_false, D_slices_ContainsFunc_S_int_int__NewSink_1, any_not, D_spec_l30Sizes]; done) | (simp_all [-List.all_eq_true, -List.any_eq_true, -List.all_eq_false, -List.any_eq_false, D_slices_ContainsFunc_S_int_int__NewSink_1, any_not, D_spec_l30Sizes]; omega) | (exfalso; simp_all [-List.all_eq_true, -List.any_eq_true, -List.all_eq_false, -List.any_eq_false, D_slices_ContainsFunc_S_int_int__NewSink_1, any_not, D_spec_l30Sizes]; omega)))))
  · skip
    have hvh1 := inR_t (notF h1)
    rcases Bool.eq_false_or_eq_true (!(inR x1 1 16)) with h2 | h2
    · skip
      have hvh2 := inR_f (notT h2)
      refine at_regq (T := S_spec_NewSink_tab) [{}, {}, { hint := some (aB false) }, {}, {}, {}, { hint := some (aB true) }] { ts := [0, 1, 2, 6, 19], os := [1] } [True, (AV.p (.c (.v (.bool (!(inR x0 0 7))))) = AV.p (.c (.v (.bool false)))), True, (AV.p (.c (.v (.bool (!(inR x1 1 16))))) = AV.p (.c (.v (.bool true))))] gamOK hT h (by kernel_rfl) ⟨trivial, hint_bool (h1), trivial, hint_bool (h2), trivial⟩ ?_
      intro a w h
      refine then_normal ?_
      refine at_test true h (by kernel_rfl) (fun hh => ?_) (fun hh => nomatch hh)
      refine wp_seq ?_
      refine at_regq (T := S_spec_NewSink_tab) [] { ts := [0, 1, 2, 6], os := [1] } [] gamOK hT h (by kernel_rfl) trivial ?_
      intro a w h
      refine then_normal ?_
      refine wp_ret ?_
      refine then_ret ?_
      exact at_return (S := S_spec_NewSink) (x := (x0, x1, x2, ())) ((0, (0, (([] : List Int), (([] : List T189), (([] : List T192), 0))))), ()) [] h (by kernel_rfl) trivial (congrArg (fun z => (z, ())) (show ((0, (0, (([] : List Int), (([] : List T189), (([] : List T192), 0)))))) = newSink x0 x1 x2 from by first | rfl | (unfold newSink; rw [if_pos (notF h1), if_neg (neT (notT h2))]; done) | (unfold newSink; (repeat (first | rfl | split)) <;> (first | rfl | omega | (simp_all [-List.all_eq_true, -List.any_eq_true, -List.all_eq_false, -List.any_eq_false, D_slices_ContainsFunc_S_int_int__NewSink_1, any_not, D_spec_l30Sizes]; done) | (simp_all [-List.all_eq_true, -List.any_eq_true, -List.all_eq_false, -List.any_eq_false, D_slices_ContainsFunc_S_int_int__NewSink_1, any_not, D_spec_l30Sizes]; omega) | (exfalso; simp_all [-List.all_eq_true, -List.any_eq_true, -List.all_eq_false, -List.any_eq_false, D_slices_ContainsFunc_S_int_int__NewSink_1, any_not, D_spec_l30Sizes]; omega)))))
    · skip
      have hvh2 := inR_t (notF h2)
      refine at_regq (T := S_spec_NewSink_tab) [{}, {}, { hint := some (aB false) }, {}, {}, {}, { hint := some (aB false) }] { ts := [0, 1, 2, 6, 19], os := [1] } [True, (AV.p (.c (.v (.bool (!(inR x0 0 7))))) = AV.p (.c (.v (.bool false)))), True, (AV.p (.c (.v (.bool (!(inR x1 1 16))))) = AV.p (.c (.v (.bool false)))), True] gamOK hT h (by kernel_rfl) ⟨trivial, hint_bool (h1), trivial, hint_bool (h2), trivial, trivial⟩ ?_
      intro a w h
      refine then_normal ?_
      refine at_test (!(D_spec_l30Sizes x2)) h (by kernel_rfl) (fun h3 => ?_) (fun h3 => ?_)
      · replace h3 : (D_spec_l30Sizes x2) = false := notT h3
        refine wp_seq ?_
        refine at_regq (T := S_spec_NewSink_tab) [] { ts := [0, 1, 2, 6], os := [1] } [] gamOK hT h (by kernel_rfl) trivial ?_
        intro a w h
        refine then_normal ?_
        refine wp_ret ?_
        refine then_ret ?_
        exact at_return (S := S_spec_NewSink) (x := (x0, x1, x2, ())) ((0, (0, (([] : List Int), (([] : List T189), (([] : List T192), 0))))), ()) [] h (by kernel_rfl) trivial (congrArg (fun z => (z, ())) (show ((0, (0, (([] : List Int), (([] : List T189), (([] : List T192), 0)))))) = newSink x0 x1 x2 from by first | rfl | (unfold newSink; rw [if_pos (notF h1), if_pos (notF h2), if_neg (neT h3)]; done) | (unfold newSink; (repeat (first | rfl | split)) <;> (first | rfl | omega | (simp_all [-List.all_eq_true, -List.any_eq_true, -List.all_eq_false, -List.any_eq_false, D_slices_ContainsFunc_S_int_int__NewSink_1, any_not, D_spec_l30Sizes]; done) | (simp_all [-List.all_eq_true, -List.any_eq_true, -List.all_eq_false, -List.any_eq_false, D_slices_ContainsFunc_S_int_int__NewSink_1, any_not, D_spec_l30Sizes]; omega) | (exfalso; simp_all [-List.all_eq_true, -List.any_eq_true, -List.all_eq_false, -List.any_eq_false, D_slices_ContainsFunc_S_int_int__NewSink_1, any_not, D_spec_l30Sizes]; omega)))))
      · replace h3 : (D_spec_l30Sizes x2) = true := notF h3
        refine wp_skip ?_
        refine then_normal ?_
        refine wp_seq ?_
        refine at_regq (T := S_spec_NewSink_tab) [{}, {}, { ids := [2] }, {}, { ids := [3] }] { ts := [6], os := [1, 3] } [(List.length ([] : List Int) + List.length x2) * 8 ≤ 140737488355328] gamOK hT h (by kernel_rfl) ⟨(by first | omega | (simp only [List.length_append, List.length_cons, List.length_nil, List.length_set, List.length_take, List.length_drop, List.length_replicate, List.length_map, Nat.min_def]; omega) | (simp; done) | (simp; omega) | done), trivial⟩ ?_
        intro a w h
        refine then_normal ?_
        refine wp_ret ?_
        exact at_return (S := S_spec_NewSink) (x := (x0, x1, x2, ())) ((x0, (x1, ((([] : List Int) ++ x2), (([] : List T189), (([] : List T192), 0))))), ()) [] h (by kernel_rfl) trivial (congrArg (fun z => (z, ())) (show ((x0, (x1, ((([] : List Int) ++ x2), (([] : List T189), (([] : List T192), 0)))))) = newSink x0 x1 x2 from by first | rfl | (unfold newSink; rw [if_pos (notF h1), if_pos (notF h2), if_pos h3]; done) | (unfold newSink; (repeat (first | rfl | split)) <;> (first | rfl | omega | (simp_all [-List.all_eq_true, -List.any_eq_true, -List.all_eq_false, -List.any_eq_false, D_slices_ContainsFunc_S_int_int__NewSink_1, any_not, D_spec_l30Sizes]; done) | (simp_all [-List.all_eq_true, -List.any_eq_true, -List.all_eq_false, -List.any_eq_false, D_slices_ContainsFunc_S_int_int__NewSink_1, any_not, D_spec_l30Sizes]; omega) | (exfalso; simp_all [-List.all_eq_true, -List.any_eq_true, -List.all_eq_false, -List.any_eq_false, D_slices_ContainsFunc_S_int_int__NewSink_1, any_not, D_spec_l30Sizes]; omega)))))




end Go.Proofs.Ytfbogeakgmickaa

/- The law FnExactWithoutHostile returns true for every input and leaves its arguments as they were. No condition. -/
import Derived.Test.YtfbogeakgmickaaPY
import Derived.Test.YtfbogeakgmickaaProg
import Derived.Test.YtfbogeakgmickaaRows
namespace Go.Proofs.Ytfbogeakgmickaa
open Go.RowKit
set_option linter.unusedVariables false
set_option linter.unusedSimpArgs false
abbrev s114 : Sh := .st 114 (.pair (.int 3) (.pair (.int 3) (.int 3)))
abbrev T114 : Type := (Int × (Int × Int))
abbrev s34 : Sh := .sl 34 (.int 3)
abbrev T38 : Type := (Int × ((List Int) × (List Int)))
abbrev s127 : Sh := .st 127 (.pair (.int 3) (.pair (.int 3) (.int 3)))
abbrev T127 : Type := (Int × (Int × Int))
abbrev s49 : Sh := .sl 49 s127
abbrev s51 : Sh := .st 51 (.pair (.int 3) s49)
abbrev T51 : Type := (Int × (List T127))
abbrev T148 : Type := (Int × (Int × (Int × ((List T38) × Int))))
abbrev T92 : Type := (Int × (List T148))
abbrev s171 : Sh := .st 171 (.pair (.int 3) (.pair (.int 3) (.int 3)))
abbrev T171 : Type := (Int × (Int × Int))
abbrev s45 : Sh := .sl 45 s171
abbrev s47 : Sh := .st 47 (.pair (.int 3) s45)
abbrev T47 : Type := (Int × (List T171))
def gam : Gam := [(34, (.int 3), 8), (26, s114, 24), (49, s127, 24)]
theorem gamOK : GamOK Try.prog gam := (.cons (Elem.of (.int .i64 0) Try.underlying34 (by kernel_rfl) rfl (by decide) (by decide)) (.cons (Elem.of (.agg #[(.int .i64 0), (.int .i64 0), (.int .i64 0)]) Try.underlying26 (by kernel_rfl) rfl (by decide) (by decide)) (.cons (Elem.of (.agg #[(.int .i64 0), (.int .i64 0), (.int .i64 0)]) Try.underlying49 (by kernel_rfl) rfl (by decide) (by decide)) .nil)))
theorem mixed : Try.prog.follows .mixedOrders = true := by kernel_rfl

def inR (n lo hi : Int) : Bool := decide (lo ≤ n ∧ n ≤ hi)
theorem inR_t {n a b : Int} (h : inR n a b = true) : a ≤ n ∧ n ≤ b := of_decide_eq_true h
theorem inR_f {n a b : Int} (h : inR n a b = false) : n < a ∨ b < n := by have := of_decide_eq_false h; omega
theorem inR_true {n a b : Int} (h : a ≤ n ∧ n ≤ b) : inR n a b = true := decide_eq_true h
theorem inR_false {n a b : Int} (h : ¬ (a ≤ n ∧ n ≤ b)) : inR n a b = false := decide_eq_false h
def lenOK {α : Type} (xs : List α) : Prop := xs.length ≤ 1073741824
def idL {α : Type} (xs : List α) : List α := xs
section
variable {α β : Type}
/-- none of the first i -/
def noneTo (p : α → Bool) (xs : List α) (z : α) (i : Nat) : Prop := ∀ j, j < i → p (xs.getD j z) = false
def idxF (p : α → Bool) : List α → Int
  | [] => -1
  | x :: l => if p x = true then 0 else if idxF p l < 0 then -1 else idxF p l + 1
theorem noneTo_zero {p : α → Bool} {xs : List α} {z : α} : noneTo p xs z 0 := fun j h => by omega
theorem noneTo_succ {p : α → Bool} {xs : List α} {z : α} {i : Nat} (h : noneTo p xs z i) (k : p (xs.getD i z) = false) : noneTo p xs z (i + 1) := fun j hj => by
  by_cases e : j = i
  · subst e; exact k
  · exact h j (by omega)
theorem idxF_at {p : α → Bool} {z : α} : ∀ {xs : List α} {i : Nat}, i < xs.length → noneTo p xs z i → p (xs.getD i z) = true → idxF p xs = i
  | [], _, h, _, _ => by simp at h
  | x :: l, 0, _, _, k => by
    have k : p x = true := k
    simp [idxF, k]
  | x :: l, i + 1, h, hn, k => by
    have h0 : p x = false := hn 0 (by omega)
    have := idxF_at (xs := l) (i := i) (by simpa using h) (fun j hj => by have := hn (j + 1) (by omega); simpa using this) (by simpa using k)
    simp only [idxF, h0, this]
    rw [if_neg (by decide), if_neg (by omega)]
    omega
theorem idxF_none {p : α → Bool} {z : α} : ∀ {xs : List α} {i : Nat}, xs.length ≤ i → noneTo p xs z i → idxF p xs = -1
  | [], _, _, _ => rfl
  | x :: l, 0, h, _ => by simp at h
  | x :: l, i + 1, h, hn => by
    have h0 : p x = false := hn 0 (by omega)
    have := idxF_none (xs := l) (i := i) (by simpa using h) (fun j hj => by have := hn (j + 1) (by omega); simpa using this)
    simp [idxF, h0, this]
theorem idxF_pos {p : α → Bool} : ∀ {xs : List α}, 0 ≤ idxF p xs ↔ xs.any p = true
  | [] => by simp [idxF]
  | x :: l => by
    have := idxF_pos (xs := l) (p := p)
    simp only [idxF, List.any_cons, Bool.or_eq_true, ← this]
    by_cases hx : p x = true
    · simp [hx]
    · rw [if_neg hx]
      split
      · rename_i h; constructor
        · intro h'; omega
        · rintro (h' | h')
          · exact absurd h' hx
          · omega
      · rename_i h; constructor
        · intro h'; right; omega
        · intro _; omega
theorem idxF_any {p : α → Bool} {xs : List α} : decide (idxF p xs ≥ 0) = xs.any p := by
  rw [Bool.eq_iff_iff, decide_eq_true_iff]; exact idxF_pos
/-- the first i alike -/
def allTo2 (e : α → β → Bool) (xs : List α) (ys : List β) (z : α) (y : β) (i : Nat) : Prop := ∀ j, j < i → e (xs.getD j z) (ys.getD j y) = true
def eqF (e : α → β → Bool) : List α → List β → Bool
  | [], [] => true
  | x :: l, y :: l' => e x y && eqF e l l'
  | _, _ => false
theorem allTo2_zero {e : α → β → Bool} {xs : List α} {ys : List β} {z : α} {y : β} : allTo2 e xs ys z y 0 := fun j h => by omega
theorem allTo2_succ {e : α → β → Bool} {xs : List α} {ys : List β} {z : α} {y : β} {i : Nat} (h : allTo2 e xs ys z y i) (k : e (xs.getD i z) (ys.getD i y) = true) : allTo2 e xs ys z y (i + 1) := fun j hj => by
  by_cases e : j = i
  · subst e; exact k
  · exact h j (by omega)
theorem eqF_len {e : α → β → Bool} : ∀ {xs : List α} {ys : List β}, xs.length ≠ ys.length → eqF e xs ys = false
  | [], [], h => absurd rfl h
  | [], _ :: _, _ => rfl
  | _ :: _, [], _ => rfl
  | _ :: l, _ :: l', h => by simp only [eqF]; rw [eqF_len (xs := l) (ys := l') (by simpa using h), Bool.and_false]
theorem eqF_at {e : α → β → Bool} {z : α} {y : β} : ∀ {xs : List α} {ys : List β} {i : Nat}, i < xs.length → i < ys.length → e (xs.getD i z) (ys.getD i y) = false → eqF e xs ys = false
  | x :: l, y' :: l', 0, _, _, h => by
    have h : e x y' = false := h
    simp [eqF, h]
  | x :: l, y' :: l', i + 1, h1, h2, h => by simp only [eqF]; rw [eqF_at (xs := l) (ys := l') (i := i) (by simpa using h1) (by simpa using h2) (by simpa using h), Bool.and_false]
  | [], _, _, h1, _, _ => by simp at h1
  | _ :: _, [], _, _, h2, _ => by simp at h2
theorem eqF_all {e : α → β → Bool} {z : α} {y : β} : ∀ {xs : List α} {ys : List β} {i : Nat}, xs.length = ys.length → xs.length ≤ i → allTo2 e xs ys z y i → eqF e xs ys = true
  | [], [], _, _, _, _ => rfl
  | [], _ :: _, _, h, _, _ => by simp at h
  | _ :: _, [], _, h, _, _ => by simp at h
  | x :: l, y' :: l', 0, _, h, _ => by simp at h
  | x :: l, y' :: l', i + 1, h, hi, ha => by
    have h0 : e x y' = true := ha 0 (by omega)
    simp only [eqF]
    rw [h0, eqF_all (xs := l) (ys := l') (i := i) (by simpa using h) (by simpa using hi) (fun j hj => by have := ha (j + 1) (by omega); simpa using this)]
    rfl
/-- all of the first i -/
def allTo1 (p : α → Bool) (xs : List α) (z : α) (i : Nat) : Prop := ∀ j, j < i → p (xs.getD j z) = true
theorem allTo1_zero {p : α → Bool} {xs : List α} {z : α} : allTo1 p xs z 0 := fun j h => by omega
theorem allTo1_succ {p : α → Bool} {xs : List α} {z : α} {i : Nat} (h : allTo1 p xs z i) (k : p (xs.getD i z) = true) : allTo1 p xs z (i + 1) := fun j hj => by
  by_cases e : j = i
  · subst e; exact k
  · exact h j (by omega)
theorem all_at {p : α → Bool} {xs : List α} {z : α} {i : Nat} (h : i < xs.length) (k : p (xs.getD i z) = false) : xs.all p = false := by
  rw [Bool.eq_false_iff]; intro ha
  have := List.all_eq_true.1 ha _ (getD_mem (z := z) h)
  rw [k] at this; cases this
theorem all_of {p : α → Bool} {xs : List α} {z : α} {i : Nat} (h : xs.length ≤ i) (k : allTo1 p xs z i) : xs.all p = true := by
  rw [List.all_eq_true]; intro x hx
  obtain ⟨j, hj, rfl⟩ := List.getElem_of_mem hx
  have := k j (by omega)
  rwa [getD_of_lt hj] at this
/-- folded so far -/
def foldTo (f : β → α → β) (b : β) (xs : List α) (i : Nat) : β := (xs.take i).foldl f b
theorem foldTo_zero {f : β → α → β} {b : β} {xs : List α} : foldTo f b xs 0 = b := rfl
theorem foldTo_succ {f : β → α → β} {b : β} {xs : List α} {i : Nat} (z : α) (h : i < xs.length) : foldTo f b xs (i + 1) = f (foldTo f b xs i) (xs.getD i z) := by
  unfold foldTo; rw [take_snoc (z := z) h, List.foldl_append]; rfl
theorem foldTo_all {f : β → α → β} {b : β} {xs : List α} {i : Nat} (h : xs.length ≤ i) : foldTo f b xs i = xs.foldl f b := by unfold foldTo; rw [take_all h]
end
theorem beqT {a b : Bool} (h : a = b) : (a == b) = true := by subst h; simp
theorem notF' {b : Bool} (h : b = false) : (!b) = true := by rw [h]; rfl
theorem notT' {b : Bool} (h : b = true) : (!b) = false := by rw [h]; rfl
section
variable {α β : Type}
theorem any_at {p : α → Bool} {xs : List α} {z : α} {i : Nat} (h : i < xs.length) (k : p (xs.getD i z) = true) : xs.any p = true := List.any_eq_true.2 ⟨_, getD_mem h, k⟩
theorem any_of {p : α → Bool} {xs : List α} {z : α} {i : Nat} (h : xs.length ≤ i) (k : noneTo p xs z i) : xs.any p = false := by
  rw [Bool.eq_false_iff]; intro ha
  obtain ⟨x, hx, hp⟩ := List.any_eq_true.1 ha
  obtain ⟨j, hj, rfl⟩ := List.getElem_of_mem hx
  have := k j (by omega)
  rw [getD_of_lt hj, hp] at this; cases this
/-- P holds of all below n -/
def allN (P : Nat → Bool) : Nat → Bool
  | 0 => true
  | n + 1 => allN P n && P n
theorem allN_succ {P : Nat → Bool} {i : Nat} (h : allN P i = true) (k : P i = true) : allN P (i + 1) = true := by simp [allN, h, k]
theorem allN_iff {P : Nat → Bool} : ∀ {n : Nat}, allN P n = true ↔ ∀ j, j < n → P j = true
  | 0 => by simp [allN]
  | n + 1 => by
    simp only [allN, Bool.and_eq_true, allN_iff (n := n)]
    constructor
    · rintro ⟨h1, h2⟩ j hj
      by_cases e : j = n
      · rw [e]; exact h2
      · exact h1 j (by omega)
    · intro h; exact ⟨fun j hj => h j (by omega), h n (by omega)⟩
theorem allN_eq {P : Nat → Bool} {i n : Nat} (h : n ≤ i) (h' : i ≤ n) (k : allN P i = true) : allN P n = true := by rw [show n = i by omega]; exact k
theorem allN_at {P : Nat → Bool} {i n : Nat} (h : i < n) (k : P i = false) : allN P n = false := by
  rw [Bool.eq_false_iff]; intro ha
  rw [allN_iff.1 ha i h] at k; cases k
theorem map_snoc {f : α → β} {xs : List α} {i : Nat} {z : α} (h : i < xs.length) : (xs.take (i + 1)).map f = (xs.take i).map f ++ [f (xs.getD i z)] := by rw [take_snoc (z := z) h, List.map_append]; rfl
theorem filter_snoc_t {p : α → Bool} {xs : List α} {i : Nat} {z : α} (h : i < xs.length) (k : p (xs.getD i z) = true) : (xs.take (i + 1)).filter p = (xs.take i).filter p ++ [xs.getD i z] := by rw [take_snoc (z := z) h, List.filter_append, List.filter_cons_of_pos k]; rfl
theorem filter_snoc_f {p : α → Bool} {xs : List α} {i : Nat} {z : α} (h : i < xs.length) (k : p (xs.getD i z) = false) : (xs.take (i + 1)).filter p = (xs.take i).filter p := by rw [take_snoc (z := z) h, List.filter_append, List.filter_cons_of_neg (by rw [k]; decide)]; simp
theorem len_filter_take {p : α → Bool} {xs : List α} (i : Nat) : ((xs.take i).filter p).length ≤ xs.length := Nat.le_trans (List.length_filter_le _ _) (by simp; omega)
theorem len_take_le {xs : List α} (i : Nat) : (xs.take i).length ≤ xs.length := by simp; omega
end
theorem any_not {α : Type} (p : α → Bool) (xs : List α) : (xs.any fun e => !p e) = !(xs.all p) := by
  induction xs with
  | nil => rfl
  | cons x l ih => rw [List.any_cons, List.all_cons, ih, Bool.not_and]
theorem allEq_comm : ∀ (a b : List Int), allEq a b = allEq b a
  | [], [] => rfl
  | [], _ :: _ => rfl
  | _ :: _, [] => rfl
  | a :: l, b :: l' => by simp only [allEq, allEq_comm l l']; rw [show decide (a = b) = decide (b = a) from by rw [decide_eq_decide]; exact eq_comm]

def D_slices_Index_S_int_int_ := (fun (xs : List Int) (v : Int) => idxF (fun e => Sh.eqB (.int 3) v e) xs)
def S_slices_Index_S_int_int_ : Sum := { fid := 184, dom := [s34, (.int 3)], cod := [(.int 3)], dp := true, fz := false, pre := fun x => True, g := fun x => ((D_slices_Index_S_int_int_ x.1 x.2.1), ()) }
def S_slices_Index_S_int_int__tab : List (Nat × Sum) := []
theorem S_slices_Index_S_int_int__ok : FnOK Try.prog 184 S_slices_Index_S_int_int_ := by
  refine at_enter 19 (fun x => ⟨[(0, aF (.int 3) x.1), (1, aI x.2.1)], []⟩) Try.func184 rfl (by kernel_rfl) (fun x => rfl) ?_
  rintro w0 Z0 ⟨x0, x1, u⟩ a w
  revert x0 x1
  intro (x0 : (List Int)) (x1 : Int) hpre hlens h
  replace h : At w0 Z0 [] 19 ⟨[(0, aF (.int 3) x0), (1, aI x1)], []⟩ a w := h
  have hl1 : List.length x0 ≤ 9223372036854775807 := hlens.1.1
  have hT : TabOK Try.prog S_slices_Index_S_int_int__tab := .nil
  refine wp_seq ?_
  refine at_regq (T := S_slices_Index_S_int_int__tab) [] { ts := [0, 1, 4], os := [] } [] gamOK hT h (by kernel_rfl) trivial ?_
  intro a w h
  refine then_normal ?_
  refine wp_seq ?_
  refine wp_seq ?_
  refine at_regq (T := S_slices_Index_S_int_int__tab) [] { ts := [0, 1, 4, 7, 8], os := [] } [] gamOK hT h (by kernel_rfl) trivial ?_
  intro a w h
  refine then_normal ?_
  refine wp_block ?_
  replace h := at_out (σ' := ⟨[(0, aF (.int 3) x0), (1, aI x1), (4, aI 0), (7, aI ((List.length x0 : Nat) : Int)), (8, aI 0)], []⟩) { ts := [0, 1, 4, 7, 8], os := [] } h (by kernel_rfl)
  refine at_loop (fun i : Nat => (⟨[(0, aF (.int 3) x0), (1, aI x1), (4, aI 0), (7, aI ((List.length x0 : Nat) : Int)), (8, aI ((i : Nat) : Int))], []⟩ : St)) (fun i => (i ≤ List.length x0 ∧ noneTo (fun e => Sh.eqB (.int 3) x1 e) x0 0 i)) (fun i => List.length x0 - i) (0) h (st_congr1 (fun (d0 : Int) => (⟨[(0, aF (.int 3) x0), (1, aI x1), (4, aI 0), (7, aI ((List.length x0 : Nat) : Int)), (8, aI d0)], []⟩ : St)) (show (0 : Int) = (((0) : Nat) : Int) from by first | rfl | (rfl))) (by exact ⟨Nat.zero_le _, noneTo_zero⟩) ?_
  intro i a w hok0 h
  refine wp_seq ?_
  refine at_regq (T := S_slices_Index_S_int_int__tab) [] { ts := [0, 1, 4, 7, 8, 9], os := [] } [] gamOK hT h (by kernel_rfl) trivial ?_
  intro a w h
  refine then_normal ?_
  refine wp_seq ?_
  refine at_test (decide (((i : Nat) : Int) < ((List.length x0 : Nat) : Int))) h (by kernel_rfl) (fun h1 => ?_) (fun h1 => ?_)
  · replace h1 : ((i : Nat) : Int) < ((List.length x0 : Nat) : Int) := of_decide_eq_true h1
    refine wp_skip ?_
    refine then_normal ?_
    refine wp_seq ?_
    refine wp_block ?_
    refine wp_seq ?_
    refine at_reg (T := S_slices_Index_S_int_int__tab) [] { ts := [0, 1, 4, 5, 7, 8], os := [] } ⟨[(0, aF (.int 3) x0), (1, aI x1), (4, aI 0), (5, aI ((i : Nat) : Int)), (7, aI ((List.length x0 : Nat) : Int)), (8, aI ((i : Nat) : Int))], []⟩ [] gamOK hT h (by kernel_rfl) trivial ?_
    intro a w h
    refine then_normal ?_
    refine wp_seq ?_
    refine at_regq (T := S_slices_Index_S_int_int__tab) [] { ts := [0, 1, 4, 5, 7, 8, 16], os := [] } [(0 : Int) ≤ ((i : Nat) : Int) ∧ ((i : Nat) : Int) < ((List.length x0 : Nat) : Int)] gamOK hT h (by kernel_rfl) ⟨(by refine ⟨?_, ?_⟩ <;> (first | omega | (simp only [List.length_append, List.length_cons, List.length_nil, List.length_set, List.length_take, List.length_drop, List.length_replicate, List.length_map, Nat.min_def]; omega) | (simp; done) | (simp; omega) | done)), trivial⟩ ?_
    intro a w h
    refine then_normal ?_
    refine at_test (decide (x1 = (x0.getD i 0))) h (by kernel_rfl) (fun h2 => ?_) (fun h2 => ?_)
    · replace h2 : x1 = (x0.getD i 0) := of_decide_eq_true h2
      refine wp_seq ?_
      refine at_regq (T := S_slices_Index_S_int_int__tab) [] { ts := [0, 1, 4, 7, 8], os := [] } [] gamOK hT h (by kernel_rfl) trivial ?_
      intro a w h
      refine then_normal ?_
      refine wp_ret ?_
      refine in_ret ?_
      refine then_ret ?_
      refine then_ret ?_
      refine in_ret ?_
      refine then_ret ?_
      exact at_return (S := S_slices_Index_S_int_int_) (x := (x0, x1, ())) (((i : Nat) : Int), ()) [] h (by kernel_rfl) trivial (congrArg (fun z => (z, ())) (show (((i : Nat) : Int)) = D_slices_Index_S_int_int_ x0 x1 from by unfold D_slices_Index_S_int_int_; exact (idxF_at (z := 0) (by omega) hok0.2 ((Sh.eqB_iff (.int 3)).2 h2)).symm))
    · replace h2 : ¬ (x1 = (x0.getD i 0)) := of_decide_eq_false h2
      refine wp_skip ?_
      refine in_normal ?_
      refine then_normal ?_
      refine at_regq (T := S_slices_Index_S_int_int__tab) [{ nw := true }] { ts := [0, 1, 4, 7, 8], os := [] } [I64 (((i : Nat) : Int) + 1)] gamOK hT h (by kernel_rfl) ⟨⟨by first | omega | (simp only [List.length_append, List.length_cons, List.length_nil, List.length_set, List.length_take, List.length_drop, List.length_replicate, List.length_map, Nat.min_def]; omega) | (simp; done) | (simp; omega) | done, by first | omega | (simp only [List.length_append, List.length_cons, List.length_nil, List.length_set, List.length_take, List.length_drop, List.length_replicate, List.length_map, Nat.min_def]; omega) | (simp; done) | (simp; omega) | done⟩, trivial⟩ ?_
      intro a w h
      replace h := at_out (σ' := ⟨[(0, aF (.int 3) x0), (1, aI x1), (4, aI 0), (7, aI ((List.length x0 : Nat) : Int)), (8, aI (((i : Nat) : Int) + 1))], []⟩) { ts := [0, 1, 4, 7, 8], os := [] } h (by kernel_rfl)
      exact ⟨i + 1, at_eq h (st_congr1 (fun (d0 : Int) => (⟨[(0, aF (.int 3) x0), (1, aI x1), (4, aI 0), (7, aI ((List.length x0 : Nat) : Int)), (8, aI d0)], []⟩ : St)) (show (((i : Nat) : Int) + 1 : Int) = (((i + 1) : Nat) : Int) from by first | rfl | (omega))), (by exact ⟨by omega, noneTo_succ hok0.2 (Sh.eqB_ne (s := (.int 3)) (fun e => h2 e))⟩), (by omega)⟩
  · replace h1 : ¬ (((i : Nat) : Int) < ((List.length x0 : Nat) : Int)) := of_decide_eq_false h1
    refine wp_exit ?_
    refine then_exit ?_
    refine then_exit ?_
    refine in_hit ?_
    refine then_normal ?_
    refine wp_seq ?_
    refine at_reg (T := S_slices_Index_S_int_int__tab) [] { ts := [4], os := [] } ⟨[(4, aI (-1))], []⟩ [] gamOK hT h (by kernel_rfl) trivial ?_
    intro a w h
    refine then_normal ?_
    refine wp_ret ?_
    exact at_return (S := S_slices_Index_S_int_int_) (x := (x0, x1, ())) ((-1), ()) [] h (by kernel_rfl) trivial (congrArg (fun z => (z, ())) (show ((-1)) = D_slices_Index_S_int_int_ x0 x1 from by unfold D_slices_Index_S_int_int_; exact (idxF_none (z := 0) (by omega) hok0.2).symm))

def D_slices_Contains_S_int_int_ := (fun (xs : List Int) (v : Int) => xs.any fun e => Sh.eqB (.int 3) v e)
def S_slices_Contains_S_int_int_ : Sum := { fid := 156, dom := [s34, (.int 3)], cod := [(.bool 4)], dp := true, fz := false, pre := fun x => True, g := fun x => ((D_slices_Contains_S_int_int_ x.1 x.2.1), ()) }
def S_slices_Contains_S_int_int__tab : List (Nat × Sum) := [(184, S_slices_Index_S_int_int_)]
theorem S_slices_Contains_S_int_int__ok : FnOK Try.prog 156 S_slices_Contains_S_int_int_ := by
  refine at_enter 9 (fun x => ⟨[(0, aF (.int 3) x.1), (1, aI x.2.1)], []⟩) Try.func156 rfl (by kernel_rfl) (fun x => rfl) ?_
  rintro w0 Z0 ⟨x0, x1, u⟩ a w
  revert x0 x1
  intro (x0 : (List Int)) (x1 : Int) hpre hlens h
  replace h : At w0 Z0 [] 9 ⟨[(0, aF (.int 3) x0), (1, aI x1)], []⟩ a w := h
  have hl1 : List.length x0 ≤ 9223372036854775807 := hlens.1.1
  have hT : TabOK Try.prog S_slices_Contains_S_int_int__tab := (.cons S_slices_Index_S_int_int__ok .nil)
  refine wp_seq ?_
  refine at_regq (T := S_slices_Contains_S_int_int__tab) [] { ts := [0, 1, 4], os := [] } [] gamOK hT h (by kernel_rfl) trivial ?_
  intro a w h
  refine then_normal ?_
  refine wp_seq ?_
  refine at_regq (T := S_slices_Contains_S_int_int__tab) [] { ts := [4], os := [] } [True] gamOK hT h (by kernel_rfl) ⟨trivial, trivial⟩ ?_
  intro a w h
  refine then_normal ?_
  refine wp_ret ?_
  exact at_return (S := S_slices_Contains_S_int_int_) (x := (x0, x1, ())) (decide ((D_slices_Index_S_int_int_ x0 x1) ≥ 0), ()) [] h (by kernel_rfl) trivial (congrArg (fun z => (z, ())) (show (decide ((D_slices_Index_S_int_int_ x0 x1) ≥ 0)) = D_slices_Contains_S_int_int_ x0 x1 from by unfold D_slices_Contains_S_int_int_; exact idxF_any))


def pTrue {α : Type} (_ : α) : Prop := True

def S_impl_InRange : Sum := { fid := 103, dom := [(.int 3), (.int 3), (.int 3)], cod := [(.bool 4)], dp := true, fz := false, pre := fun x => True, g := fun x => ((inR x.1 x.2.1 x.2.2.1), ()) }
def S_impl_InRange_tab : List (Nat × Sum) := []
theorem S_impl_InRange_ok : FnOK Try.prog 103 S_impl_InRange := by
  refine at_enter 15 (fun x => ⟨[(0, aI x.1), (1, aI x.2.1), (2, aI x.2.2.1)], []⟩) Try.func103 rfl (by kernel_rfl) (fun x => rfl) ?_
  rintro w0 Z0 ⟨x0, x1, x2, u⟩ a w
  revert x0 x1 x2
  intro (x0 : Int) (x1 : Int) (x2 : Int) hpre hlens h
  replace h : At w0 Z0 [] 15 ⟨[(0, aI x0), (1, aI x1), (2, aI x2)], []⟩ a w := h
  have hT : TabOK Try.prog S_impl_InRange_tab := .nil
  refine wp_seq ?_
  refine at_regq (T := S_impl_InRange_tab) [] { ts := [0, 1, 2, 6], os := [] } [] gamOK hT h (by kernel_rfl) trivial ?_
  intro a w h
  refine then_normal ?_
  refine wp_seq ?_
  by_cases h1 : x1 ≤ x0
  · skip
    refine at_regq (T := S_impl_InRange_tab) [{}, {}, { hint := some (aB true) }] { ts := [6], os := [] } [(AV.p (.c (.v (.bool (decide (x1 ≤ x0))))) = AV.p (.c (.v (.bool true))))] gamOK hT h (by kernel_rfl) ⟨hint_bool (decide_eq_true h1), trivial⟩ ?_
    intro a w h
    refine then_normal ?_
    refine wp_ret ?_
    exact at_return (S := S_impl_InRange) (x := (x0, x1, x2, ())) (decide (x0 ≤ x2), ()) [] h (by kernel_rfl) trivial (congrArg (fun z => (z, ())) (show (decide (x0 ≤ x2)) = inR x0 x1 x2 from by (unfold inR; simp [*]; done)))
  · skip
    refine at_regq (T := S_impl_InRange_tab) [{}, {}, { hint := some (aB false) }] { ts := [6], os := [] } [(AV.p (.c (.v (.bool (decide (x1 ≤ x0))))) = AV.p (.c (.v (.bool false))))] gamOK hT h (by kernel_rfl) ⟨hint_bool (decide_eq_false h1), trivial⟩ ?_
    intro a w h
    refine then_normal ?_
    refine wp_ret ?_
    exact at_return (S := S_impl_InRange) (x := (x0, x1, x2, ())) (false, ()) [] h (by kernel_rfl) trivial (congrArg (fun z => (z, ())) (show (false) = inR x0 x1 x2 from by (unfold inR; simp [*]; done)))




def S_laws_eqIntS : Sum := { fid := 35, dom := [s34, s34], cod := [(.bool 4)], dp := true, fz := false, pre := fun x => True, g := fun x => (((Sh.eqB s34) x.1 x.2.1), ()) }
def S_laws_eqIntS_tab : List (Nat × Sum) := []
theorem S_laws_eqIntS_ok : FnOK Try.prog 35 S_laws_eqIntS := by
  refine at_enter 26 (fun x => ⟨[(0, aF (.int 3) x.1), (1, aF (.int 3) x.2.1)], []⟩) Try.func35 rfl (by kernel_rfl) (fun x => rfl) ?_
  rintro w0 Z0 ⟨x0, x1, u⟩ a w
  revert x0 x1
  intro (x0 : (List Int)) (x1 : (List Int)) hpre hlens h
  replace h : At w0 Z0 [] 26 ⟨[(0, aF (.int 3) x0), (1, aF (.int 3) x1)], []⟩ a w := h
  have hl1 : List.length x0 ≤ 9223372036854775807 := hlens.1.1
  have hl2 : List.length x1 ≤ 9223372036854775807 := hlens.2.1.1
  have hT : TabOK Try.prog S_laws_eqIntS_tab := .nil
  refine wp_seq ?_
  refine at_regq (T := S_laws_eqIntS_tab) [] { ts := [0, 1, 4], os := [] } [] gamOK hT h (by kernel_rfl) trivial ?_
  intro a w h
  refine then_normal ?_
  refine wp_seq ?_
  refine wp_seq ?_
  refine at_regq (T := S_laws_eqIntS_tab) [] { ts := [0, 1, 4, 10], os := [] } [] gamOK hT h (by kernel_rfl) trivial ?_
  intro a w h
  refine then_normal ?_
  refine at_test (!decide (((List.length x0 : Nat) : Int) = ((List.length x1 : Nat) : Int))) h (by kernel_rfl) (fun h1 => ?_) (fun h1 => ?_)
  · replace h1 : ¬ (((List.length x0 : Nat) : Int) = ((List.length x1 : Nat) : Int)) := by simpa using h1
    refine wp_seq ?_
    refine at_regq (T := S_laws_eqIntS_tab) [] { ts := [0, 1, 4], os := [] } [] gamOK hT h (by kernel_rfl) trivial ?_
    intro a w h
    refine then_normal ?_
    refine wp_ret ?_
    refine then_ret ?_
    exact at_return (S := S_laws_eqIntS) (x := (x0, x1, ())) (false, ()) [] h (by kernel_rfl) trivial (congrArg (fun z => (z, ())) (show (false) = (Sh.eqB s34) x0 x1 from by exact (Sh.eqB_ne (fun e => h1 (by rw [e]))).symm))
  · replace h1 : ((List.length x0 : Nat) : Int) = ((List.length x1 : Nat) : Int) := by simpa using h1
    refine wp_skip ?_
    refine then_normal ?_
    refine wp_seq ?_
    refine wp_seq ?_
    refine at_regq (T := S_laws_eqIntS_tab) [] { ts := [0, 1, 4, 5], os := [] } [] gamOK hT h (by kernel_rfl) trivial ?_
    intro a w h
    refine then_normal ?_
    refine wp_block ?_
    replace h := at_out (σ' := ⟨[(0, aF (.int 3) x0), (1, aF (.int 3) x1), (4, aB false), (5, aI 0)], []⟩) { ts := [0, 1, 4, 5], os := [] } h (by kernel_rfl)
    refine at_loop (fun i : Nat => (⟨[(0, aF (.int 3) x0), (1, aF (.int 3) x1), (4, aB false), (5, aI ((i : Nat) : Int))], []⟩ : St)) (fun i => (i ≤ List.length x0 ∧ x0.take i = x1.take i)) (fun i => List.length x0 - i) (0) h (st_congr1 (fun (d0 : Int) => (⟨[(0, aF (.int 3) x0), (1, aF (.int 3) x1), (4, aB false), (5, aI d0)], []⟩ : St)) (show (0 : Int) = (((0) : Nat) : Int) from by first | rfl | (rfl))) (by exact ⟨Nat.zero_le _, rfl⟩) ?_
    intro i a w hok0 h
    refine wp_seq ?_
    refine wp_seq ?_
    refine at_reg (T := S_laws_eqIntS_tab) [] { ts := [0, 1, 4, 5, 14], os := [] } ⟨[(0, aF (.int 3) x0), (1, aF (.int 3) x1), (4, aB false), (5, aI ((i : Nat) : Int)), (14, aB (decide (((i : Nat) : Int) < ((List.length x0 : Nat) : Int))))], []⟩ [] gamOK hT h (by kernel_rfl) trivial ?_
    intro a w h
    refine then_normal ?_
    refine at_test (decide (((i : Nat) : Int) < ((List.length x0 : Nat) : Int))) h (by kernel_rfl) (fun h2 => ?_) (fun h2 => ?_)
    · replace h2 : ((i : Nat) : Int) < ((List.length x0 : Nat) : Int) := of_decide_eq_true h2
      refine wp_skip ?_
      refine then_normal ?_
      refine wp_seq ?_
      refine wp_block ?_
      refine wp_seq ?_
      refine at_anyq (T := S_laws_eqIntS_tab) [{}, {}, {}, {}, {}, {}, {}, {}, {}] { ts := [0, 1, 4, 5, 25], os := [] } [(0 : Int) ≤ ((i : Nat) : Int) ∧ ((i : Nat) : Int) < ((List.length x0 : Nat) : Int), (0 : Int) ≤ ((i : Nat) : Int) ∧ ((i : Nat) : Int) < ((List.length x1 : Nat) : Int)] gamOK hT mixed h (by kernel_rfl) ⟨(by refine ⟨?_, ?_⟩ <;> (first | omega | (simp only [List.length_append, List.length_cons, List.length_nil, List.length_set, List.length_take, List.length_drop, List.length_replicate, List.length_map, Nat.min_def]; omega) | (simp; done) | (simp; omega) | done)), (by refine ⟨?_, ?_⟩ <;> (first | omega | (simp only [List.length_append, List.length_cons, List.length_nil, List.length_set, List.length_take, List.length_drop, List.length_replicate, List.length_map, Nat.min_def]; omega) | (simp; done) | (simp; omega) | done)), trivial⟩ ?_
      intro a w h
      refine then_normal ?_
      refine at_test (!decide ((x0.getD i 0) = (x1.getD i 0))) h (by kernel_rfl) (fun h3 => ?_) (fun h3 => ?_)
      · replace h3 : ¬ ((x0.getD i 0) = (x1.getD i 0)) := by simpa using h3
        refine wp_seq ?_
        refine at_regq (T := S_laws_eqIntS_tab) [] { ts := [0, 1, 4, 5], os := [] } [] gamOK hT h (by kernel_rfl) trivial ?_
        intro a w h
        refine then_normal ?_
        refine wp_ret ?_
        refine in_ret ?_
        refine then_ret ?_
        refine then_ret ?_
        refine in_ret ?_
        refine then_ret ?_
        exact at_return (S := S_laws_eqIntS) (x := (x0, x1, ())) (false, ()) [] h (by kernel_rfl) trivial (congrArg (fun z => (z, ())) (show (false) = (Sh.eqB s34) x0 x1 from by exact (Sh.eqB_ne (s := s34) (fun e => h3 (by rw [e]))).symm))
      · replace h3 : (x0.getD i 0) = (x1.getD i 0) := by simpa using h3
        refine wp_skip ?_
        refine in_normal ?_
        refine then_normal ?_
        refine at_regq (T := S_laws_eqIntS_tab) [{}, { nw := true }] { ts := [0, 1, 4, 5], os := [] } [I64 (((i : Nat) : Int) + 1)] gamOK hT h (by kernel_rfl) ⟨⟨by first | omega | (simp only [List.length_append, List.length_cons, List.length_nil, List.length_set, List.length_take, List.length_drop, List.length_replicate, List.length_map, Nat.min_def]; omega) | (simp; done) | (simp; omega) | done, by first | omega | (simp only [List.length_append, List.length_cons, List.length_nil, List.length_set, List.length_take, List.length_drop, List.length_replicate, List.length_map, Nat.min_def]; omega) | (simp; done) | (simp; omega) | done⟩, trivial⟩ ?_
        intro a w h
        replace h := at_out (σ' := ⟨[(0, aF (.int 3) x0), (1, aF (.int 3) x1), (4, aB false), (5, aI (((i : Nat) : Int) + 1))], []⟩) { ts := [0, 1, 4, 5], os := [] } h (by kernel_rfl)
        exact ⟨i + 1, at_eq h (st_congr1 (fun (d0 : Int) => (⟨[(0, aF (.int 3) x0), (1, aF (.int 3) x1), (4, aB false), (5, aI d0)], []⟩ : St)) (show (((i : Nat) : Int) + 1 : Int) = (((i + 1) : Nat) : Int) from by first | rfl | (omega))), (by exact ⟨by omega, eqTo_step (z := 0) (by omega) (by omega) hok0.2 h3⟩), (by omega)⟩
    · replace h2 : ¬ (((i : Nat) : Int) < ((List.length x0 : Nat) : Int)) := of_decide_eq_false h2
      refine wp_exit ?_
      refine then_exit ?_
      refine then_exit ?_
      refine in_hit ?_
      refine then_normal ?_
      refine wp_seq ?_
      refine at_regq (T := S_laws_eqIntS_tab) [] { ts := [4], os := [] } [] gamOK hT h (by kernel_rfl) trivial ?_
      intro a w h
      refine then_normal ?_
      refine wp_ret ?_
      exact at_return (S := S_laws_eqIntS) (x := (x0, x1, ())) (true, ()) [] h (by kernel_rfl) trivial (congrArg (fun z => (z, ())) (show (true) = (Sh.eqB s34) x0 x1 from by (have e := hok0.2; rw [take_all (by omega), take_all (by omega)] at e; exact ((Sh.eqB_iff s34).2 e).symm)))

def S_laws_eqEdge : Sum := { fid := 157, dom := [s127, s127], cod := [(.bool 4)], dp := true, fz := false, pre := fun x => True, g := fun x => (((Sh.eqB s127) x.1 x.2.1), ()) }
def S_laws_eqEdge_tab : List (Nat × Sum) := []
theorem S_laws_eqEdge_ok : FnOK Try.prog 157 S_laws_eqEdge := by
  refine at_enter 20 (fun x => ⟨[(0, aG [cI x.1.1, cI x.1.2.1, cI x.1.2.2]), (1, aG [cI x.2.1.1, cI x.2.1.2.1, cI x.2.1.2.2])], []⟩) Try.func157 rfl (by kernel_rfl) (fun x => rfl) ?_
  rintro w0 Z0 ⟨x0, x1, u⟩ a w
  revert x0 x1
  intro (x0 : T127) (x1 : T127) hpre hlens h
  replace h : At w0 Z0 [] 20 ⟨[(0, aG [cI x0.1, cI x0.2.1, cI x0.2.2]), (1, aG [cI x1.1, cI x1.2.1, cI x1.2.2])], []⟩ a w := h
  have hT : TabOK Try.prog S_laws_eqEdge_tab := .nil
  refine wp_seq ?_
  refine at_regq (T := S_laws_eqEdge_tab) [{ ids := [1] }, { ids := [2] }] { ts := [2, 3, 4], os := [1, 2] } [] gamOK hT h (by kernel_rfl) trivial ?_
  intro a w h
  refine then_normal ?_
  refine wp_seq ?_
  refine wp_seq ?_
  refine at_regq (T := S_laws_eqEdge_tab) [] { ts := [2, 3, 4, 9], os := [1, 2] } [] gamOK hT h (by kernel_rfl) trivial ?_
  intro a w h
  refine then_normal ?_
  refine at_test (!decide (x0.1 = x1.1)) h (by kernel_rfl) (fun h1 => ?_) (fun h1 => ?_)
  · replace h1 : ¬ (x0.1 = x1.1) := by simpa using h1
    refine wp_seq ?_
    refine at_regq (T := S_laws_eqEdge_tab) [] { ts := [2, 3, 4], os := [1, 2] } [] gamOK hT h (by kernel_rfl) trivial ?_
    intro a w h
    refine then_normal ?_
    refine wp_ret ?_
    refine then_ret ?_
    exact at_return (S := S_laws_eqEdge) (x := (x0, x1, ())) (false, ()) [] h (by kernel_rfl) trivial (congrArg (fun z => (z, ())) (show (false) = (Sh.eqB s127) x0 x1 from by exact (Sh.eqB_ne (s := s127) (fun e => h1 (congrArg (fun (y : T127) => y.1) e))).symm))
  · replace h1 : x0.1 = x1.1 := by simpa using h1
    refine wp_skip ?_
    refine then_normal ?_
    refine wp_seq ?_
    refine wp_seq ?_
    refine at_regq (T := S_laws_eqEdge_tab) [] { ts := [2, 3, 4, 14], os := [1, 2] } [] gamOK hT h (by kernel_rfl) trivial ?_
    intro a w h
    refine then_normal ?_
    refine at_test (!decide (x0.2.1 = x1.2.1)) h (by kernel_rfl) (fun h2 => ?_) (fun h2 => ?_)
    · replace h2 : ¬ (x0.2.1 = x1.2.1) := by simpa using h2
      refine wp_seq ?_
      refine at_reg (T := S_laws_eqEdge_tab) [] { ts := [2, 3, 4], os := [1, 2] } ⟨[(2, aP 1 0), (3, aP 2 0), (4, aB false)], [(1, oX 127 [cI x0.1, cI x0.2.1, cI x0.2.2]), (2, oX 127 [cI x1.1, cI x1.2.1, cI x1.2.2])]⟩ [] gamOK hT h (by kernel_rfl) trivial ?_
      intro a w h
      refine then_normal ?_
      refine wp_ret ?_
      refine then_ret ?_
      exact at_return (S := S_laws_eqEdge) (x := (x0, x1, ())) (false, ()) [] h (by kernel_rfl) trivial (congrArg (fun z => (z, ())) (show (false) = (Sh.eqB s127) x0 x1 from by exact (Sh.eqB_ne (s := s127) (fun e => h2 (congrArg (fun (y : T127) => y.2.1) e))).symm))
    · replace h2 : x0.2.1 = x1.2.1 := by simpa using h2
      refine wp_skip ?_
      refine then_normal ?_
      refine wp_seq ?_
      refine wp_seq ?_
      refine at_reg (T := S_laws_eqEdge_tab) [] { ts := [4, 19], os := [] } ⟨[(4, aB false), (19, aB (!decide (x0.2.2 = x1.2.2)))], []⟩ [] gamOK hT h (by kernel_rfl) trivial ?_
      intro a w h
      refine then_normal ?_
      refine at_test (!decide (x0.2.2 = x1.2.2)) h (by kernel_rfl) (fun h3 => ?_) (fun h3 => ?_)
      · replace h3 : ¬ (x0.2.2 = x1.2.2) := by simpa using h3
        refine wp_seq ?_
        refine at_regq (T := S_laws_eqEdge_tab) [] { ts := [4], os := [] } [] gamOK hT h (by kernel_rfl) trivial ?_
        intro a w h
        refine then_normal ?_
        refine wp_ret ?_
        refine then_ret ?_
        exact at_return (S := S_laws_eqEdge) (x := (x0, x1, ())) (false, ()) [] h (by kernel_rfl) trivial (congrArg (fun z => (z, ())) (show (false) = (Sh.eqB s127) x0 x1 from by exact (Sh.eqB_ne (s := s127) (fun e => h3 (congrArg (fun (y : T127) => y.2.2) e))).symm))
      · replace h3 : x0.2.2 = x1.2.2 := by simpa using h3
        refine wp_skip ?_
        refine then_normal ?_
        refine wp_seq ?_
        refine at_regq (T := S_laws_eqEdge_tab) [] { ts := [4], os := [] } [] gamOK hT h (by kernel_rfl) trivial ?_
        intro a w h
        refine then_normal ?_
        refine wp_ret ?_
        exact at_return (S := S_laws_eqEdge) (x := (x0, x1, ())) (true, ()) [] h (by kernel_rfl) trivial (congrArg (fun z => (z, ())) (show (true) = (Sh.eqB s127) x0 x1 from by exact ((Sh.eqB_iff s127).2 (Prod.ext h1 (Prod.ext h2 h3))).symm))

def S_laws_eqEdgeS : Sum := { fid := 107, dom := [s49, s49], cod := [(.bool 4)], dp := true, fz := false, pre := fun x => True, g := fun x => (((Sh.eqB s49) x.1 x.2.1), ()) }
def S_laws_eqEdgeS_tab : List (Nat × Sum) := [(157, S_laws_eqEdge)]
theorem S_laws_eqEdgeS_ok : FnOK Try.prog 107 S_laws_eqEdgeS := by
  refine at_enter 27 (fun x => ⟨[(0, aF s127 x.1), (1, aF s127 x.2.1)], []⟩) Try.func107 rfl (by kernel_rfl) (fun x => rfl) ?_
  rintro w0 Z0 ⟨x0, x1, u⟩ a w
  revert x0 x1
  intro (x0 : (List T127)) (x1 : (List T127)) hpre hlens h
  replace h : At w0 Z0 [] 27 ⟨[(0, aF s127 x0), (1, aF s127 x1)], []⟩ a w := h
  have hl1 : List.length x0 ≤ 9223372036854775807 := hlens.1.1
  have hl2 : List.length x1 ≤ 9223372036854775807 := hlens.2.1.1
  have hT : TabOK Try.prog S_laws_eqEdgeS_tab := (.cons S_laws_eqEdge_ok .nil)
  refine wp_seq ?_
  refine at_regq (T := S_laws_eqEdgeS_tab) [] { ts := [0, 1, 4], os := [] } [] gamOK hT h (by kernel_rfl) trivial ?_
  intro a w h
  refine then_normal ?_
  refine wp_seq ?_
  refine wp_seq ?_
  refine at_regq (T := S_laws_eqEdgeS_tab) [] { ts := [0, 1, 4, 10], os := [] } [] gamOK hT h (by kernel_rfl) trivial ?_
  intro a w h
  refine then_normal ?_
  refine at_test (!decide (((List.length x0 : Nat) : Int) = ((List.length x1 : Nat) : Int))) h (by kernel_rfl) (fun h1 => ?_) (fun h1 => ?_)
  · replace h1 : ¬ (((List.length x0 : Nat) : Int) = ((List.length x1 : Nat) : Int)) := by simpa using h1
    refine wp_seq ?_
    refine at_regq (T := S_laws_eqEdgeS_tab) [] { ts := [0, 1, 4], os := [] } [] gamOK hT h (by kernel_rfl) trivial ?_
    intro a w h
    refine then_normal ?_
    refine wp_ret ?_
    refine then_ret ?_
    exact at_return (S := S_laws_eqEdgeS) (x := (x0, x1, ())) (false, ()) [] h (by kernel_rfl) trivial (congrArg (fun z => (z, ())) (show (false) = (Sh.eqB s49) x0 x1 from by exact (Sh.eqB_ne (fun e => h1 (by rw [e]))).symm))
  · replace h1 : ((List.length x0 : Nat) : Int) = ((List.length x1 : Nat) : Int) := by simpa using h1
    refine wp_skip ?_
    refine then_normal ?_
    refine wp_seq ?_
    refine wp_seq ?_
    refine at_regq (T := S_laws_eqEdgeS_tab) [] { ts := [0, 1, 4, 5], os := [] } [] gamOK hT h (by kernel_rfl) trivial ?_
    intro a w h
    refine then_normal ?_
    refine wp_block ?_
    replace h := at_out (σ' := ⟨[(0, aF s127 x0), (1, aF s127 x1), (4, aB false), (5, aI 0)], []⟩) { ts := [0, 1, 4, 5], os := [] } h (by kernel_rfl)
    refine at_loop (fun i : Nat => (⟨[(0, aF s127 x0), (1, aF s127 x1), (4, aB false), (5, aI ((i : Nat) : Int))], []⟩ : St)) (fun i => (i ≤ List.length x0 ∧ x0.take i = x1.take i)) (fun i => List.length x0 - i) (0) h (st_congr1 (fun (d0 : Int) => (⟨[(0, aF s127 x0), (1, aF s127 x1), (4, aB false), (5, aI d0)], []⟩ : St)) (show (0 : Int) = (((0) : Nat) : Int) from by first | rfl | (rfl))) (by exact ⟨Nat.zero_le _, rfl⟩) ?_
    intro i a w hok0 h
    refine wp_seq ?_
    refine wp_seq ?_
    refine at_reg (T := S_laws_eqEdgeS_tab) [] { ts := [0, 1, 4, 5, 14], os := [] } ⟨[(0, aF s127 x0), (1, aF s127 x1), (4, aB false), (5, aI ((i : Nat) : Int)), (14, aB (decide (((i : Nat) : Int) < ((List.length x0 : Nat) : Int))))], []⟩ [] gamOK hT h (by kernel_rfl) trivial ?_
    intro a w h
    refine then_normal ?_
    refine at_test (decide (((i : Nat) : Int) < ((List.length x0 : Nat) : Int))) h (by kernel_rfl) (fun h2 => ?_) (fun h2 => ?_)
    · replace h2 : ((i : Nat) : Int) < ((List.length x0 : Nat) : Int) := of_decide_eq_true h2
      refine wp_skip ?_
      refine then_normal ?_
      refine wp_seq ?_
      refine wp_block ?_
      refine wp_seq ?_
      refine at_anyq (T := S_laws_eqEdgeS_tab) [{}, {}, {}, {}, {}, {}, {}, {}, {}, {}] { ts := [0, 1, 4, 5, 26], os := [] } [(0 : Int) ≤ ((i : Nat) : Int) ∧ ((i : Nat) : Int) < ((List.length x0 : Nat) : Int), (0 : Int) ≤ ((i : Nat) : Int) ∧ ((i : Nat) : Int) < ((List.length x1 : Nat) : Int), True] gamOK hT mixed h (by kernel_rfl) ⟨(by refine ⟨?_, ?_⟩ <;> (first | omega | (simp only [List.length_append, List.length_cons, List.length_nil, List.length_set, List.length_take, List.length_drop, List.length_replicate, List.length_map, Nat.min_def]; omega) | (simp; done) | (simp; omega) | done)), (by refine ⟨?_, ?_⟩ <;> (first | omega | (simp only [List.length_append, List.length_cons, List.length_nil, List.length_set, List.length_take, List.length_drop, List.length_replicate, List.length_map, Nat.min_def]; omega) | (simp; done) | (simp; omega) | done)), trivial, trivial⟩ ?_
      intro a w h
      refine then_normal ?_
      refine at_test (!((Sh.eqB s127) (x0.getD i (0, (0, 0))) (x1.getD i (0, (0, 0))))) h (by kernel_rfl) (fun h3 => ?_) (fun h3 => ?_)
      · replace h3 : ((Sh.eqB s127) (x0.getD i (0, (0, 0))) (x1.getD i (0, (0, 0)))) = false := notT h3
        refine wp_seq ?_
        refine at_regq (T := S_laws_eqEdgeS_tab) [] { ts := [0, 1, 4, 5], os := [] } [] gamOK hT h (by kernel_rfl) trivial ?_
        intro a w h
        refine then_normal ?_
        refine wp_ret ?_
        refine in_ret ?_
        refine then_ret ?_
        refine then_ret ?_
        refine in_ret ?_
        refine then_ret ?_
        exact at_return (S := S_laws_eqEdgeS) (x := (x0, x1, ())) (false, ()) [] h (by kernel_rfl) trivial (congrArg (fun z => (z, ())) (show (false) = (Sh.eqB s49) x0 x1 from by exact (Sh.eqB_ne (s := s49) (fun e => Sh.of_eqB_ne h3 (by rw [e]))).symm))
      · replace h3 : ((Sh.eqB s127) (x0.getD i (0, (0, 0))) (x1.getD i (0, (0, 0)))) = true := notF h3
        refine wp_skip ?_
        refine in_normal ?_
        refine then_normal ?_
        refine at_regq (T := S_laws_eqEdgeS_tab) [{}, { nw := true }] { ts := [0, 1, 4, 5], os := [] } [I64 (((i : Nat) : Int) + 1)] gamOK hT h (by kernel_rfl) ⟨⟨by first | omega | (simp only [List.length_append, List.length_cons, List.length_nil, List.length_set, List.length_take, List.length_drop, List.length_replicate, List.length_map, Nat.min_def]; omega) | (simp; done) | (simp; omega) | done, by first | omega | (simp only [List.length_append, List.length_cons, List.length_nil, List.length_set, List.length_take, List.length_drop, List.length_replicate, List.length_map, Nat.min_def]; omega) | (simp; done) | (simp; omega) | done⟩, trivial⟩ ?_
        intro a w h
        replace h := at_out (σ' := ⟨[(0, aF s127 x0), (1, aF s127 x1), (4, aB false), (5, aI (((i : Nat) : Int) + 1))], []⟩) { ts := [0, 1, 4, 5], os := [] } h (by kernel_rfl)
        exact ⟨i + 1, at_eq h (st_congr1 (fun (d0 : Int) => (⟨[(0, aF s127 x0), (1, aF s127 x1), (4, aB false), (5, aI d0)], []⟩ : St)) (show (((i : Nat) : Int) + 1 : Int) = (((i + 1) : Nat) : Int) from by first | rfl | (omega))), (by exact ⟨by omega, eqTo_step (z := (0, (0, 0))) (by omega) (by omega) hok0.2 (Sh.of_eqB h3)⟩), (by omega)⟩
    · replace h2 : ¬ (((i : Nat) : Int) < ((List.length x0 : Nat) : Int)) := of_decide_eq_false h2
      refine wp_exit ?_
      refine then_exit ?_
      refine then_exit ?_
      refine in_hit ?_
      refine then_normal ?_
      refine wp_seq ?_
      refine at_regq (T := S_laws_eqEdgeS_tab) [] { ts := [4], os := [] } [] gamOK hT h (by kernel_rfl) trivial ?_
      intro a w h
      refine then_normal ?_
      refine wp_ret ?_
      exact at_return (S := S_laws_eqEdgeS) (x := (x0, x1, ())) (true, ()) [] h (by kernel_rfl) trivial (congrArg (fun z => (z, ())) (show (true) = (Sh.eqB s49) x0 x1 from by (have e := hok0.2; rw [take_all (by omega), take_all (by omega)] at e; exact ((Sh.eqB_iff s49).2 e).symm)))

def S_laws_eqGraph : Sum := { fid := 34, dom := [s51, s51], cod := [(.bool 4)], dp := true, fz := false, pre := fun x => True, g := fun x => (((Sh.eqB s51) x.1 x.2.1), ()) }
def S_laws_eqGraph_tab : List (Nat × Sum) := [(107, S_laws_eqEdgeS)]
theorem S_laws_eqGraph_ok : FnOK Try.prog 34 S_laws_eqGraph := by
  refine at_enter 16 (fun x => ⟨[(0, aG [cI x.1.1, .ro s127 x.1.2]), (1, aG [cI x.2.1.1, .ro s127 x.2.1.2])], []⟩) Try.func34 rfl (by kernel_rfl) (fun x => rfl) ?_
  rintro w0 Z0 ⟨x0, x1, u⟩ a w
  revert x0 x1
  intro (x0 : T51) (x1 : T51) hpre hlens h
  replace h : At w0 Z0 [] 16 ⟨[(0, aG [cI x0.1, .ro s127 x0.2]), (1, aG [cI x1.1, .ro s127 x1.2])], []⟩ a w := h
  have hl1 : List.length x0.2 ≤ 9223372036854775807 := hlens.1.2.1
  have hl2 : List.length x1.2 ≤ 9223372036854775807 := hlens.2.1.2.1
  have hT : TabOK Try.prog S_laws_eqGraph_tab := (.cons S_laws_eqEdgeS_ok .nil)
  refine wp_seq ?_
  refine at_regq (T := S_laws_eqGraph_tab) [{ ids := [1] }, { ids := [2] }] { ts := [2, 3, 4], os := [1, 2] } [] gamOK hT h (by kernel_rfl) trivial ?_
  intro a w h
  refine then_normal ?_
  refine wp_seq ?_
  refine wp_seq ?_
  refine at_regq (T := S_laws_eqGraph_tab) [] { ts := [2, 3, 4, 9], os := [1, 2] } [] gamOK hT h (by kernel_rfl) trivial ?_
  intro a w h
  refine then_normal ?_
  refine at_test (!decide (x0.1 = x1.1)) h (by kernel_rfl) (fun h1 => ?_) (fun h1 => ?_)
  · replace h1 : ¬ (x0.1 = x1.1) := by simpa using h1
    refine wp_seq ?_
    refine at_regq (T := S_laws_eqGraph_tab) [] { ts := [2, 3, 4], os := [1, 2] } [] gamOK hT h (by kernel_rfl) trivial ?_
    intro a w h
    refine then_normal ?_
    refine wp_ret ?_
    refine then_ret ?_
    exact at_return (S := S_laws_eqGraph) (x := (x0, x1, ())) (false, ()) [] h (by kernel_rfl) trivial (congrArg (fun z => (z, ())) (show (false) = (Sh.eqB s51) x0 x1 from by exact (Sh.eqB_ne (s := s51) (fun e => h1 (congrArg (fun (y : T51) => y.1) e))).symm))
  · replace h1 : x0.1 = x1.1 := by simpa using h1
    refine wp_skip ?_
    refine then_normal ?_
    refine wp_seq ?_
    refine wp_seq ?_
    refine at_regq (T := S_laws_eqGraph_tab) [] { ts := [4, 15], os := [] } [True] gamOK hT h (by kernel_rfl) ⟨trivial, trivial⟩ ?_
    intro a w h
    refine then_normal ?_
    refine at_test (!((Sh.eqB s49) x0.2 x1.2)) h (by kernel_rfl) (fun h2 => ?_) (fun h2 => ?_)
    · replace h2 : ((Sh.eqB s49) x0.2 x1.2) = false := notT h2
      refine wp_seq ?_
      refine at_reg (T := S_laws_eqGraph_tab) [] { ts := [4], os := [] } ⟨[(4, aB false)], []⟩ [] gamOK hT h (by kernel_rfl) trivial ?_
      intro a w h
      refine then_normal ?_
      refine wp_ret ?_
      refine then_ret ?_
      exact at_return (S := S_laws_eqGraph) (x := (x0, x1, ())) (false, ()) [] h (by kernel_rfl) trivial (congrArg (fun z => (z, ())) (show (false) = (Sh.eqB s51) x0 x1 from by exact (Sh.eqB_ne (s := s51) (fun e => Sh.of_eqB_ne h2 (congrArg (fun (y : T51) => y.2) e))).symm))
    · replace h2 : ((Sh.eqB s49) x0.2 x1.2) = true := notF h2
      refine wp_skip ?_
      refine then_normal ?_
      refine wp_seq ?_
      refine at_reg (T := S_laws_eqGraph_tab) [] { ts := [4], os := [] } ⟨[(4, aB true)], []⟩ [] gamOK hT h (by kernel_rfl) trivial ?_
      intro a w h
      refine then_normal ?_
      refine wp_ret ?_
      exact at_return (S := S_laws_eqGraph) (x := (x0, x1, ())) (true, ()) [] h (by kernel_rfl) trivial (congrArg (fun z => (z, ())) (show (true) = (Sh.eqB s51) x0 x1 from by exact ((Sh.eqB_iff s51).2 (Prod.ext h1 (Sh.of_eqB h2))).symm))

def S_laws_heldEdgeS : Sum := { fid := 109, dom := [s49, (.int 3)], cod := [(.int 3)], dp := true, fz := false, pre := fun x => (pMk s49) x.1 x.2.1, g := fun x => (((heldD s49) x.1 x.2.1), ()) }
def S_laws_heldEdgeS_tab : List (Nat × Sum) := []
theorem S_laws_heldEdgeS_ok : FnOK Try.prog 109 S_laws_heldEdgeS := by
  refine at_enter 40 (fun x => ⟨[(0, aF s127 x.1), (1, aI x.2.1)], []⟩) Try.func109 rfl (by kernel_rfl) (fun x => rfl) ?_
  rintro w0 Z0 ⟨x0, x1, u⟩ a w
  revert x0 x1
  intro (x0 : (List T127)) (x1 : Int) hpre hlens h
  replace h : At w0 Z0 [] 40 ⟨[(0, aF s127 x0), (1, aI x1)], []⟩ a w := h
  replace hpre : (pMk s49) x0 x1 := hpre
  have hl1 : List.length x0 ≤ 9223372036854775807 := hlens.1.1
  have hT : TabOK Try.prog S_laws_heldEdgeS_tab := .nil
  have hp : 0 ≤ x1 ∧ x1 + ((Sh.ct s49 x0 : Nat) : Int) ≤ 4611686018427387904 := hpre
  have hct0 : Sh.ct s49 x0 = ctL (Sh.ct s127) x0 := rfl
  refine wp_seq ?_
  refine at_regq (T := S_laws_heldEdgeS_tab) [] { ts := [0, 1, 4], os := [] } [] gamOK hT h (by kernel_rfl) trivial ?_
  intro a w h
  refine then_normal ?_
  refine wp_seq ?_
  refine wp_seq ?_
  refine at_regq (T := S_laws_heldEdgeS_tab) [] { ts := [0, 1, 4, 5], os := [] } [] gamOK hT h (by kernel_rfl) trivial ?_
  intro a w h
  refine then_normal ?_
  refine wp_block ?_
  replace h := at_out (σ' := ⟨[(0, aF s127 x0), (1, aI x1), (4, aI 0), (5, aI 0)], []⟩) { ts := [0, 1, 4, 5], os := [] } h (by kernel_rfl)
  refine at_loop (fun i : Nat => (⟨[(0, aF s127 x0), (1, aI (x1 + ((ctL (Sh.ct s127) (List.take i x0) : Nat) : Int))), (4, aI 0), (5, aI ((i : Nat) : Int))], []⟩ : St)) (fun i => (i ≤ List.length x0 ∧ mkL (Sh.mk s127) (Sh.ct s127) x1 (x0.take i) = x0.take i)) (fun i => List.length x0 - i) (0) h (st_congr2 (fun (d0 : Int) (d1 : Int) => (⟨[(0, aF s127 x0), (1, aI d0), (4, aI 0), (5, aI d1)], []⟩ : St)) (show (x1 : Int) = (x1 + ((ctL (Sh.ct s127) (List.take (0) x0) : Nat) : Int)) from by first | rfl | (simp [ctL])) (show (0 : Int) = (((0) : Nat) : Int) from by first | rfl | (simp [ctL]))) (by exact ⟨Nat.zero_le _, by simp [mkL]⟩) ?_
  intro i a w hok0 h
  refine wp_seq ?_
  refine wp_seq ?_
  refine at_regq (T := S_laws_heldEdgeS_tab) [] { ts := [0, 1, 4, 5, 9], os := [] } [] gamOK hT h (by kernel_rfl) trivial ?_
  intro a w h
  refine then_normal ?_
  refine at_test (decide (((i : Nat) : Int) < ((List.length x0 : Nat) : Int))) h (by kernel_rfl) (fun h1 => ?_) (fun h1 => ?_)
  · replace h1 : ((i : Nat) : Int) < ((List.length x0 : Nat) : Int) := of_decide_eq_true h1
    have hat := ctL_at_le (c := Sh.ct s127) (xs := x0) (z := (0, (0, 0))) (i := i) (by omega)
    have hsu := ctL_take_succ (c := Sh.ct s127) (xs := x0) (z := (0, (0, 0))) (i := i) (by omega)
    have hci : Sh.ct s127 (x0.getD i (0, (0, 0))) = (1 + (1 + 1)) := rfl
    refine wp_skip ?_
    refine then_normal ?_
    refine wp_seq ?_
    refine wp_block ?_
    refine wp_seq ?_
    refine wp_seq ?_
    refine at_reg (T := S_laws_heldEdgeS_tab) [] { ts := [0, 1, 4, 5, 18], os := [] } ⟨[(0, aF s127 x0), (1, aI (x1 + ((ctL (Sh.ct s127) (List.take i x0) : Nat) : Int))), (4, aI 0), (5, aI ((i : Nat) : Int)), (18, aB (!decide ((x0.getD i (0, (0, 0))).1 = (x1 + ((ctL (Sh.ct s127) (List.take i x0) : Nat) : Int)))))], []⟩ [(0 : Int) ≤ ((i : Nat) : Int) ∧ ((i : Nat) : Int) < ((List.length x0 : Nat) : Int)] gamOK hT h (by kernel_rfl) ⟨(by refine ⟨?_, ?_⟩ <;> (first | omega | (simp only [List.length_append, List.length_cons, List.length_nil, List.length_set, List.length_take, List.length_drop, List.length_replicate, List.length_map, Nat.min_def]; omega) | (simp; done) | (simp; omega) | done)), trivial⟩ ?_
    intro a w h
    refine then_normal ?_
    refine at_test (!decide ((x0.getD i (0, (0, 0))).1 = (x1 + ((ctL (Sh.ct s127) (List.take i x0) : Nat) : Int)))) h (by kernel_rfl) (fun h2 => ?_) (fun h2 => ?_)
    · replace h2 : ¬ ((x0.getD i (0, (0, 0))).1 = (x1 + ((ctL (Sh.ct s127) (List.take i x0) : Nat) : Int))) := by simpa using h2
      refine wp_seq ?_
      refine at_regq (T := S_laws_heldEdgeS_tab) [] { ts := [0, 1, 4, 5], os := [] } [] gamOK hT h (by kernel_rfl) trivial ?_
      intro a w h
      refine then_normal ?_
      refine wp_ret ?_
      refine then_ret ?_
      refine in_ret ?_
      refine then_ret ?_
      refine then_ret ?_
      refine in_ret ?_
      refine then_ret ?_
      exact at_return (S := S_laws_heldEdgeS) (x := (x0, x1, ())) ((-1), ()) [] h (by kernel_rfl) trivial (congrArg (fun z => (z, ())) (show ((-1)) = (heldD s49) x0 x1 from by refine (heldD_no (s := s49) (fun e => ?_)).symm; have e2 : (x1 + ((ctL (Sh.ct s127) (List.take i x0) : Nat) : Int)) = (x0.getD i (0, (0, 0))).1 := congrArg (fun (y : T127) => y.1) (mkL_get (z := (0, (0, 0))) (i := i) e (by omega)); omega))
    · replace h2 : (x0.getD i (0, (0, 0))).1 = (x1 + ((ctL (Sh.ct s127) (List.take i x0) : Nat) : Int)) := by simpa using h2
      refine wp_skip ?_
      refine then_normal ?_
      refine wp_seq ?_
      refine at_regq (T := S_laws_heldEdgeS_tab) [{}, { nw := true }] { ts := [0, 1, 4, 5], os := [] } [I64 ((x1 + ((ctL (Sh.ct s127) (List.take i x0) : Nat) : Int)) + 1)] gamOK hT h (by kernel_rfl) ⟨⟨by first | omega | (simp only [List.length_append, List.length_cons, List.length_nil, List.length_set, List.length_take, List.length_drop, List.length_replicate, List.length_map, Nat.min_def]; omega) | (simp; done) | (simp; omega) | done, by first | omega | (simp only [List.length_append, List.length_cons, List.length_nil, List.length_set, List.length_take, List.length_drop, List.length_replicate, List.length_map, Nat.min_def]; omega) | (simp; done) | (simp; omega) | done⟩, trivial⟩ ?_
      intro a w h
      refine then_normal ?_
      refine wp_seq ?_
      refine wp_seq ?_
      refine at_regq (T := S_laws_heldEdgeS_tab) [] { ts := [0, 1, 4, 5, 27], os := [] } [(0 : Int) ≤ ((i : Nat) : Int) ∧ ((i : Nat) : Int) < ((List.length x0 : Nat) : Int)] gamOK hT h (by kernel_rfl) ⟨(by refine ⟨?_, ?_⟩ <;> (first | omega | (simp only [List.length_append, List.length_cons, List.length_nil, List.length_set, List.length_take, List.length_drop, List.length_replicate, List.length_map, Nat.min_def]; omega) | (simp; done) | (simp; omega) | done)), trivial⟩ ?_
      intro a w h
      refine then_normal ?_
      refine at_test (!decide ((x0.getD i (0, (0, 0))).2.1 = (x1 + ((ctL (Sh.ct s127) (List.take i x0) : Nat) : Int)) + 1)) h (by kernel_rfl) (fun h3 => ?_) (fun h3 => ?_)
      · replace h3 : ¬ ((x0.getD i (0, (0, 0))).2.1 = (x1 + ((ctL (Sh.ct s127) (List.take i x0) : Nat) : Int)) + 1) := by simpa using h3
        refine wp_seq ?_
        refine at_regq (T := S_laws_heldEdgeS_tab) [] { ts := [0, 1, 4, 5], os := [] } [] gamOK hT h (by kernel_rfl) trivial ?_
        intro a w h
        refine then_normal ?_
        refine wp_ret ?_
        refine then_ret ?_
        refine in_ret ?_
        refine then_ret ?_
        refine then_ret ?_
        refine in_ret ?_
        refine then_ret ?_
        exact at_return (S := S_laws_heldEdgeS) (x := (x0, x1, ())) ((-1), ()) [] h (by kernel_rfl) trivial (congrArg (fun z => (z, ())) (show ((-1)) = (heldD s49) x0 x1 from by refine (heldD_no (s := s49) (fun e => ?_)).symm; have e2 : (x1 + ((ctL (Sh.ct s127) (List.take i x0) : Nat) : Int)) + ((1 : Nat) : Int) = (x0.getD i (0, (0, 0))).2.1 := congrArg (fun (y : T127) => y.2.1) (mkL_get (z := (0, (0, 0))) (i := i) e (by omega)); omega))
      · replace h3 : (x0.getD i (0, (0, 0))).2.1 = (x1 + ((ctL (Sh.ct s127) (List.take i x0) : Nat) : Int)) + 1 := by simpa using h3
        refine wp_skip ?_
        refine then_normal ?_
        refine wp_seq ?_
        refine at_regq (T := S_laws_heldEdgeS_tab) [{}, { nw := true }] { ts := [0, 1, 4, 5], os := [] } [I64 (((x1 + ((ctL (Sh.ct s127) (List.take i x0) : Nat) : Int)) + 1) + 1)] gamOK hT h (by kernel_rfl) ⟨⟨by first | omega | (simp only [List.length_append, List.length_cons, List.length_nil, List.length_set, List.length_take, List.length_drop, List.length_replicate, List.length_map, Nat.min_def]; omega) | (simp; done) | (simp; omega) | done, by first | omega | (simp only [List.length_append, List.length_cons, List.length_nil, List.length_set, List.length_take, List.length_drop, List.length_replicate, List.length_map, Nat.min_def]; omega) | (simp; done) | (simp; omega) | done⟩, trivial⟩ ?_
        intro a w h
        refine then_normal ?_
        refine wp_seq ?_
        refine wp_seq ?_
        refine at_reg (T := S_laws_heldEdgeS_tab) [] { ts := [0, 1, 4, 5, 36], os := [] } ⟨[(0, aF s127 x0), (1, aI (((x1 + ((ctL (Sh.ct s127) (List.take i x0) : Nat) : Int)) + 1) + 1)), (4, aI 0), (5, aI ((i : Nat) : Int)), (36, aB (!decide ((x0.getD i (0, (0, 0))).2.2 = ((x1 + ((ctL (Sh.ct s127) (List.take i x0) : Nat) : Int)) + 1) + 1)))], []⟩ [(0 : Int) ≤ ((i : Nat) : Int) ∧ ((i : Nat) : Int) < ((List.length x0 : Nat) : Int)] gamOK hT h (by kernel_rfl) ⟨(by refine ⟨?_, ?_⟩ <;> (first | omega | (simp only [List.length_append, List.length_cons, List.length_nil, List.length_set, List.length_take, List.length_drop, List.length_replicate, List.length_map, Nat.min_def]; omega) | (simp; done) | (simp; omega) | done)), trivial⟩ ?_
        intro a w h
        refine then_normal ?_
        refine at_test (!decide ((x0.getD i (0, (0, 0))).2.2 = ((x1 + ((ctL (Sh.ct s127) (List.take i x0) : Nat) : Int)) + 1) + 1)) h (by kernel_rfl) (fun h4 => ?_) (fun h4 => ?_)
        · replace h4 : ¬ ((x0.getD i (0, (0, 0))).2.2 = ((x1 + ((ctL (Sh.ct s127) (List.take i x0) : Nat) : Int)) + 1) + 1) := by simpa using h4
          refine wp_seq ?_
          refine at_regq (T := S_laws_heldEdgeS_tab) [] { ts := [0, 1, 4, 5], os := [] } [] gamOK hT h (by kernel_rfl) trivial ?_
          intro a w h
          refine then_normal ?_
          refine wp_ret ?_
          refine then_ret ?_
          refine in_ret ?_
          refine then_ret ?_
          refine then_ret ?_
          refine in_ret ?_
          refine then_ret ?_
          exact at_return (S := S_laws_heldEdgeS) (x := (x0, x1, ())) ((-1), ()) [] h (by kernel_rfl) trivial (congrArg (fun z => (z, ())) (show ((-1)) = (heldD s49) x0 x1 from by refine (heldD_no (s := s49) (fun e => ?_)).symm; have e2 : (x1 + ((ctL (Sh.ct s127) (List.take i x0) : Nat) : Int)) + ((1 : Nat) : Int) + ((1 : Nat) : Int) = (x0.getD i (0, (0, 0))).2.2 := congrArg (fun (y : T127) => y.2.2) (mkL_get (z := (0, (0, 0))) (i := i) e (by omega)); omega))
        · replace h4 : (x0.getD i (0, (0, 0))).2.2 = ((x1 + ((ctL (Sh.ct s127) (List.take i x0) : Nat) : Int)) + 1) + 1 := by simpa using h4
          refine wp_skip ?_
          refine then_normal ?_
          refine at_regq (T := S_laws_heldEdgeS_tab) [{}, { nw := true }] { ts := [0, 1, 4, 5], os := [] } [I64 ((((x1 + ((ctL (Sh.ct s127) (List.take i x0) : Nat) : Int)) + 1) + 1) + 1)] gamOK hT h (by kernel_rfl) ⟨⟨by first | omega | (simp only [List.length_append, List.length_cons, List.length_nil, List.length_set, List.length_take, List.length_drop, List.length_replicate, List.length_map, Nat.min_def]; omega) | (simp; done) | (simp; omega) | done, by first | omega | (simp only [List.length_append, List.length_cons, List.length_nil, List.length_set, List.length_take, List.length_drop, List.length_replicate, List.length_map, Nat.min_def]; omega) | (simp; done) | (simp; omega) | done⟩, trivial⟩ ?_
          intro a w h
          refine in_normal ?_
          refine then_normal ?_
          refine at_regq (T := S_laws_heldEdgeS_tab) [{}, { nw := true }] { ts := [0, 1, 4, 5], os := [] } [I64 (((i : Nat) : Int) + 1)] gamOK hT h (by kernel_rfl) ⟨⟨by first | omega | (simp only [List.length_append, List.length_cons, List.length_nil, List.length_set, List.length_take, List.length_drop, List.length_replicate, List.length_map, Nat.min_def]; omega) | (simp; done) | (simp; omega) | done, by first | omega | (simp only [List.length_append, List.length_cons, List.length_nil, List.length_set, List.length_take, List.length_drop, List.length_replicate, List.length_map, Nat.min_def]; omega) | (simp; done) | (simp; omega) | done⟩, trivial⟩ ?_
          intro a w h
          replace h := at_out (σ' := ⟨[(0, aF s127 x0), (1, aI ((((x1 + ((ctL (Sh.ct s127) (List.take i x0) : Nat) : Int)) + 1) + 1) + 1)), (4, aI 0), (5, aI (((i : Nat) : Int) + 1))], []⟩) { ts := [0, 1, 4, 5], os := [] } h (by kernel_rfl)
          exact ⟨i + 1, at_eq h (st_congr2 (fun (d0 : Int) (d1 : Int) => (⟨[(0, aF s127 x0), (1, aI d0), (4, aI 0), (5, aI d1)], []⟩ : St)) (show ((((x1 + ((ctL (Sh.ct s127) (List.take i x0) : Nat) : Int)) + 1) + 1) + 1 : Int) = (x1 + ((ctL (Sh.ct s127) (List.take (i + 1) x0) : Nat) : Int)) from by first | rfl | (omega)) (show (((i : Nat) : Int) + 1 : Int) = (((i + 1) : Nat) : Int) from by first | rfl | (omega))), (by exact ⟨by omega, mkL_step (z := (0, (0, 0))) (by omega) hok0.2 (Prod.ext (by show ((x1 + ((ctL (Sh.ct s127) (List.take i x0) : Nat) : Int)) : Int) = (x0.getD i (0, (0, 0))).1; omega) (Prod.ext (by show ((x1 + ((ctL (Sh.ct s127) (List.take i x0) : Nat) : Int)) + ((1 : Nat) : Int) : Int) = (x0.getD i (0, (0, 0))).2.1; omega) (by show ((x1 + ((ctL (Sh.ct s127) (List.take i x0) : Nat) : Int)) + ((1 : Nat) : Int) + ((1 : Nat) : Int) : Int) = (x0.getD i (0, (0, 0))).2.2; omega)))⟩), (by omega)⟩
  · replace h1 : ¬ (((i : Nat) : Int) < ((List.length x0 : Nat) : Int)) := of_decide_eq_false h1
    refine wp_exit ?_
    refine then_exit ?_
    refine then_exit ?_
    refine in_hit ?_
    refine then_normal ?_
    refine wp_seq ?_
    refine at_reg (T := S_laws_heldEdgeS_tab) [] { ts := [4], os := [] } ⟨[(4, aI (x1 + ((ctL (Sh.ct s127) (List.take i x0) : Nat) : Int)))], []⟩ [] gamOK hT h (by kernel_rfl) trivial ?_
    intro a w h
    refine then_normal ?_
    refine wp_ret ?_
    exact at_return (S := S_laws_heldEdgeS) (x := (x0, x1, ())) ((x1 + ((ctL (Sh.ct s127) (List.take i x0) : Nat) : Int)), ()) [] h (by kernel_rfl) trivial (congrArg (fun z => (z, ())) (show ((x1 + ((ctL (Sh.ct s127) (List.take i x0) : Nat) : Int))) = (heldD s49) x0 x1 from by have e := hok0.2; rw [take_all (by omega)] at e; rw [heldD_pos (s := s49) e, hct0, take_all (by omega)]))

def S_laws_heldGraph : Sum := { fid := 38, dom := [s51, (.int 3)], cod := [(.int 3)], dp := true, fz := false, pre := fun x => (pMkT s51) x.1 x.2.1, g := fun x => (((heldDT s51) x.1 x.2.1), ()) }
def S_laws_heldGraph_tab : List (Nat × Sum) := [(109, S_laws_heldEdgeS)]
theorem S_laws_heldGraph_ok : FnOK Try.prog 38 S_laws_heldGraph := by
  refine at_enter 12 (fun x => ⟨[(0, aG [cI x.1.1, .ro s127 x.1.2]), (1, aI x.2.1)], []⟩) Try.func38 rfl (by kernel_rfl) (fun x => rfl) ?_
  rintro w0 Z0 ⟨x0, x1, u⟩ a w
  revert x0 x1
  intro (x0 : T51) (x1 : Int) hpre hlens h
  replace h : At w0 Z0 [] 12 ⟨[(0, aG [cI x0.1, .ro s127 x0.2]), (1, aI x1)], []⟩ a w := h
  replace hpre : (pMkT s51) x0 x1 := hpre
  have hl1 : List.length x0.2 ≤ 9223372036854775807 := hlens.1.2.1
  have hT : TabOK Try.prog S_laws_heldGraph_tab := (.cons S_laws_heldEdgeS_ok .nil)
  have hp : 0 ≤ x1 ∧ x1 + ((Sh.ctT s51 x0 : Nat) : Int) ≤ 4611686018427387904 := hpre
  have hct0 : Sh.ctT s51 x0 = (0 + (Sh.ct s49 x0.2)) := rfl
  refine wp_seq ?_
  refine at_regq (T := S_laws_heldGraph_tab) [{ ids := [1] }] { ts := [1, 2, 4], os := [1] } [] gamOK hT h (by kernel_rfl) trivial ?_
  intro a w h
  refine then_normal ?_
  refine wp_seq ?_
  refine at_regq (T := S_laws_heldGraph_tab) [] { ts := [1, 4], os := [] } [(pMk s49) x0.2 x1] gamOK hT h (by kernel_rfl) ⟨(by (first | (show (0 : Int) ≤ _ ∧ _ + ((Sh.ct _ _ : Nat) : Int) ≤ (4611686018427387904 : Int); constructor <;> omega) | (show (0 : Int) ≤ _ ∧ _ + ((Sh.ctT _ _ : Nat) : Int) ≤ (4611686018427387904 : Int); constructor <;> omega))), trivial⟩ ?_
  intro a w h
  refine then_normal ?_
  refine wp_seq ?_
  refine wp_seq ?_
  refine at_regq (T := S_laws_heldGraph_tab) [] { ts := [1, 4, 10], os := [] } [] gamOK hT h (by kernel_rfl) trivial ?_
  intro a w h
  refine then_normal ?_
  refine at_test (decide (((heldD s49) x0.2 x1) < 0)) h (by kernel_rfl) (fun h1 => ?_) (fun h1 => ?_)
  · replace h1 : ((heldD s49) x0.2 x1) < 0 := of_decide_eq_true h1
    have hvh1 := heldD_neg (by omega) h1
    refine wp_seq ?_
    refine at_reg (T := S_laws_heldGraph_tab) [] { ts := [1, 4], os := [] } ⟨[(1, aI ((heldD s49) x0.2 x1)), (4, aI (-1))], []⟩ [] gamOK hT h (by kernel_rfl) trivial ?_
    intro a w h
    refine then_normal ?_
    refine wp_ret ?_
    refine then_ret ?_
    exact at_return (S := S_laws_heldGraph) (x := (x0, x1, ())) ((-1), ()) [] h (by kernel_rfl) trivial (congrArg (fun z => (z, ())) (show ((-1)) = (heldDT s51) x0 x1 from by refine (heldDT_no (s := s51) (fun e => ?_)).symm; have e2 : Sh.mk s49 x0.2 (x1 + ((0 : Nat) : Int)) = x0.2 := (congrArg (fun (y : T51) => y.2) e); exact hvh1 ((congrArg (fun k => Sh.mk s49 x0.2 k) (show (_ : Int) = x1 + ((0 : Nat) : Int) from by first | rfl | omega)).trans e2)))
  · replace h1 : ¬ (((heldD s49) x0.2 x1) < 0) := of_decide_eq_false h1
    have hvh1 := heldD_val h1
    refine wp_skip ?_
    refine then_normal ?_
    refine wp_seq ?_
    refine at_reg (T := S_laws_heldGraph_tab) [] { ts := [4], os := [] } ⟨[(4, aI ((heldD s49) x0.2 x1))], []⟩ [] gamOK hT h (by kernel_rfl) trivial ?_
    intro a w h
    refine then_normal ?_
    refine wp_ret ?_
    exact at_return (S := S_laws_heldGraph) (x := (x0, x1, ())) (((heldD s49) x0.2 x1), ()) [] h (by kernel_rfl) trivial (congrArg (fun z => (z, ())) (show (((heldD s49) x0.2 x1)) = (heldDT s51) x0 x1 from by rw [heldDT_pos (s := s51) (show Sh.mkT s51 x0 x1 = x0 from (Prod.ext rfl ((congrArg (fun k => Sh.mk s49 x0.2 k) (show (x1 + ((0 : Nat) : Int) : Int) = _ from by first | rfl | omega)).trans hvh1.1)))]; omega))

def S_laws_markIntS : Sum := { fid := 37, dom := [s34, (.int 3)], cod := [(.int 3)], dp := true, fz := false, pre := fun x => (pMk s34) x.1 x.2.1, g := fun x => (((mkK s34) x.1 x.2.1), ()), kinds := [.io, .rd], upd := fun x => ((Sh.mk s34) x.1 x.2.1, (x.2.1, ())) }
def S_laws_markIntS_tab : List (Nat × Sum) := []
theorem S_laws_markIntS_ok : FnOK Try.prog 37 S_laws_markIntS := by
  refine at_enterI 19 [1] [2] (fun us x => ⟨[(0, aS 1), (1, aI x.2.1)], [(1, oR (.int 3) x.1), (2, oP 1 (S_laws_markIntS.hd us 0))]⟩) Try.func37 rfl (by kernel_rfl) (fun us x => rfl) ?_
  rintro w0 Z0 us ⟨x0, x1, u⟩ L a w
  revert x0 x1
  intro (x0 : (List Int)) (x1 : Int) hio hpre hlens h
  replace h : At w0 Z0 L 19 ⟨[(0, aS 1), (1, aI x1)], [(1, oR (.int 3) x0), (2, oP 1 (S_laws_markIntS.hd us 0))]⟩ a w := h
  replace hpre : (pMk s34) x0 x1 := hpre
  have hl1 : List.length x0 ≤ 9223372036854775807 := hlens.1.1
  have hT : TabOK Try.prog S_laws_markIntS_tab := .nil
  have hp : 0 ≤ x1 ∧ x1 + ((Sh.ct s34 x0 : Nat) : Int) ≤ 4611686018427387904 := hpre
  have hct0 : Sh.ct s34 x0 = ctL (Sh.ct (.int 3)) x0 := rfl
  refine wp_seq ?_
  refine at_regq (T := S_laws_markIntS_tab) [] { ts := [0, 1, 4], os := [1, 2] } [] gamOK hT h (by kernel_rfl) trivial ?_
  intro a w h
  refine then_normal ?_
  refine wp_seq ?_
  refine wp_seq ?_
  refine at_regq (T := S_laws_markIntS_tab) [] { ts := [0, 1, 4, 5], os := [1, 2] } [] gamOK hT h (by kernel_rfl) trivial ?_
  intro a w h
  refine then_normal ?_
  refine wp_block ?_
  replace h := at_out (σ' := ⟨[(0, aS 1), (1, aI x1), (4, aI 0), (5, aI 0)], [(1, oR (.int 3) x0), (2, oP 1 (S_laws_markIntS.hd us 0))]⟩) { ts := [0, 1, 4, 5], os := [1, 2] } h (by kernel_rfl)
  refine at_loop (fun i : Nat => (⟨[(0, aS 1), (1, aI (x1 + ((ctL (Sh.ct (.int 3)) (List.take i x0) : Nat) : Int))), (4, aI 0), (5, aI ((i : Nat) : Int))], [(1, oR (.int 3) (mkAt (Sh.mk (.int 3)) (Sh.ct (.int 3)) x1 x0 i)), (2, oP 1 (S_laws_markIntS.hd us 0))]⟩ : St)) (fun i => i ≤ List.length x0) (fun i => List.length x0 - i) (0) h (st_congr3 (fun (d0 : List Int) (d1 : Int) (d2 : Int) => (⟨[(0, aS 1), (1, aI d1), (4, aI 0), (5, aI d2)], [(1, oR (.int 3) d0), (2, oP 1 (S_laws_markIntS.hd us 0))]⟩ : St)) (show (x0 : List Int) = (mkAt (Sh.mk (.int 3)) (Sh.ct (.int 3)) x1 x0 (0)) from by first | rfl | (first | exact mkAt_zero.symm | simp [ctL])) (show (x1 : Int) = (x1 + ((ctL (Sh.ct (.int 3)) (List.take (0) x0) : Nat) : Int)) from by first | rfl | (first | exact mkAt_zero.symm | simp [ctL])) (show (0 : Int) = (((0) : Nat) : Int) from by first | rfl | (first | exact mkAt_zero.symm | simp [ctL]))) (by omega) ?_
  intro i a w hok0 h
  refine wp_seq ?_
  refine wp_seq ?_
  refine at_regq (T := S_laws_markIntS_tab) [] { ts := [0, 1, 4, 5, 9], os := [1, 2] } [] gamOK hT h (by kernel_rfl) trivial ?_
  intro a w h
  refine then_normal ?_
  refine at_test (decide (((i : Nat) : Int) < ((List.length (mkAt (Sh.mk (.int 3)) (Sh.ct (.int 3)) x1 x0 i) : Nat) : Int))) h (by kernel_rfl) (fun h1 => ?_) (fun h1 => ?_)
  · replace h1 : ((i : Nat) : Int) < ((List.length (mkAt (Sh.mk (.int 3)) (Sh.ct (.int 3)) x1 x0 i) : Nat) : Int) := of_decide_eq_true h1
    have hml : List.length (mkAt (Sh.mk (.int 3)) (Sh.ct (.int 3)) x1 x0 i) = List.length x0 := mkAt_len
    rw [hml] at h1
    have hat := ctL_at_le (c := Sh.ct (.int 3)) (xs := x0) (z := 0) (i := i) (by omega)
    have hsu := ctL_take_succ (c := Sh.ct (.int 3)) (xs := x0) (z := 0) (i := i) (by omega)
    have hci : Sh.ct (.int 3) (x0.getD i 0) = 1 := rfl
    have hge : List.getD (mkAt (Sh.mk (.int 3)) (Sh.ct (.int 3)) x1 x0 i) i 0 = (x0.getD i 0) := mkAt_get (by omega)
    refine wp_skip ?_
    refine then_normal ?_
    refine wp_seq ?_
    refine wp_block ?_
    refine wp_seq ?_
    refine at_reg (T := S_laws_markIntS_tab) [] { ts := [0, 1, 4, 5], os := [1, 2] } ⟨[(0, aS 1), (1, aI (x1 + ((ctL (Sh.ct (.int 3)) (List.take i x0) : Nat) : Int))), (4, aI 0), (5, aI ((i : Nat) : Int))], [(1, oR (.int 3) (List.set (mkAt (Sh.mk (.int 3)) (Sh.ct (.int 3)) x1 x0 i) i (x1 + ((ctL (Sh.ct (.int 3)) (List.take i x0) : Nat) : Int)))), (2, oP 1 (S_laws_markIntS.hd us 0))]⟩ [(0 : Int) ≤ ((i : Nat) : Int) ∧ ((i : Nat) : Int) < ((List.length (mkAt (Sh.mk (.int 3)) (Sh.ct (.int 3)) x1 x0 i) : Nat) : Int), i < List.length (mkAt (Sh.mk (.int 3)) (Sh.ct (.int 3)) x1 x0 i)] gamOK hT h (by kernel_rfl) ⟨(by refine ⟨?_, ?_⟩ <;> (first | omega | ((try simp only [hge, mkK]); omega) | (simp only [List.length_append, List.length_cons, List.length_nil, List.length_set, List.length_take, List.length_drop, List.length_replicate, List.length_map, Nat.min_def, mkAt_len]; omega) | (simp; done) | (simp; omega))), (by first | omega | ((try simp only [hge, mkK]); omega) | (simp only [List.length_append, List.length_cons, List.length_nil, List.length_set, List.length_take, List.length_drop, List.length_replicate, List.length_map, Nat.min_def, mkAt_len]; omega) | (simp; done) | (simp; omega)), trivial⟩ ?_
    intro a w h
    refine then_normal ?_
    refine at_regq (T := S_laws_markIntS_tab) [{}, { nw := true }] { ts := [0, 1, 4, 5], os := [1, 2] } [I64 ((x1 + ((ctL (Sh.ct (.int 3)) (List.take i x0) : Nat) : Int)) + 1)] gamOK hT h (by kernel_rfl) ⟨⟨by first | omega | ((try simp only [hge, mkK]); omega) | (simp only [List.length_append, List.length_cons, List.length_nil, List.length_set, List.length_take, List.length_drop, List.length_replicate, List.length_map, Nat.min_def, mkAt_len]; omega) | (simp; done) | (simp; omega), by first | omega | ((try simp only [hge, mkK]); omega) | (simp only [List.length_append, List.length_cons, List.length_nil, List.length_set, List.length_take, List.length_drop, List.length_replicate, List.length_map, Nat.min_def, mkAt_len]; omega) | (simp; done) | (simp; omega)⟩, trivial⟩ ?_
    intro a w h
    refine in_normal ?_
    refine then_normal ?_
    refine at_regq (T := S_laws_markIntS_tab) [{}, { nw := true }] { ts := [0, 1, 4, 5], os := [1, 2] } [I64 (((i : Nat) : Int) + 1)] gamOK hT h (by kernel_rfl) ⟨⟨by first | omega | ((try simp only [hge, mkK]); omega) | (simp only [List.length_append, List.length_cons, List.length_nil, List.length_set, List.length_take, List.length_drop, List.length_replicate, List.length_map, Nat.min_def, mkAt_len]; omega) | (simp; done) | (simp; omega), by first | omega | ((try simp only [hge, mkK]); omega) | (simp only [List.length_append, List.length_cons, List.length_nil, List.length_set, List.length_take, List.length_drop, List.length_replicate, List.length_map, Nat.min_def, mkAt_len]; omega) | (simp; done) | (simp; omega)⟩, trivial⟩ ?_
    intro a w h
    replace h := at_out (σ' := ⟨[(0, aS 1), (1, aI ((x1 + ((ctL (Sh.ct (.int 3)) (List.take i x0) : Nat) : Int)) + 1)), (4, aI 0), (5, aI (((i : Nat) : Int) + 1))], [(1, oR (.int 3) (List.set (mkAt (Sh.mk (.int 3)) (Sh.ct (.int 3)) x1 x0 i) i (x1 + ((ctL (Sh.ct (.int 3)) (List.take i x0) : Nat) : Int)))), (2, oP 1 (S_laws_markIntS.hd us 0))]⟩) { ts := [0, 1, 4, 5], os := [1, 2] } h (by kernel_rfl)
    skip
    exact ⟨i + 1, at_eq h (st_congr3 (fun (d0 : List Int) (d1 : Int) (d2 : Int) => (⟨[(0, aS 1), (1, aI d1), (4, aI 0), (5, aI d2)], [(1, oR (.int 3) d0), (2, oP 1 (S_laws_markIntS.hd us 0))]⟩ : St)) (show ((List.set (mkAt (Sh.mk (.int 3)) (Sh.ct (.int 3)) x1 x0 i) i (x1 + ((ctL (Sh.ct (.int 3)) (List.take i x0) : Nat) : Int))) : List Int) = (mkAt (Sh.mk (.int 3)) (Sh.ct (.int 3)) x1 x0 (i + 1)) from by first | rfl | (refine mkAt_set' (z := 0) (by omega) ?_; first | (simp only [hge, mkK]; done) | ((try simp only [hge, mkK]); show _ = Sh.mk (.int 3) (x0.getD i 0) _; exact (by show (_ : Int) = _; first | rfl | omega)))) (show ((x1 + ((ctL (Sh.ct (.int 3)) (List.take i x0) : Nat) : Int)) + 1 : Int) = (x1 + ((ctL (Sh.ct (.int 3)) (List.take (i + 1) x0) : Nat) : Int)) from by first | rfl | (((try simp only [hge, mkK]); omega))) (show (((i : Nat) : Int) + 1 : Int) = (((i + 1) : Nat) : Int) from by first | rfl | (omega))), (by first | omega | (refine ⟨?_, ?_⟩ <;> omega)), (by omega)⟩
  · replace h1 : ¬ (((i : Nat) : Int) < ((List.length (mkAt (Sh.mk (.int 3)) (Sh.ct (.int 3)) x1 x0 i) : Nat) : Int)) := of_decide_eq_false h1
    have hml : List.length (mkAt (Sh.mk (.int 3)) (Sh.ct (.int 3)) x1 x0 i) = List.length x0 := mkAt_len
    rw [hml] at h1
    refine wp_exit ?_
    refine then_exit ?_
    refine then_exit ?_
    refine in_hit ?_
    refine then_normal ?_
    refine wp_seq ?_
    refine at_reg (T := S_laws_markIntS_tab) [] { ts := [4], os := [1, 2] } ⟨[(4, aI (x1 + ((ctL (Sh.ct (.int 3)) (List.take i x0) : Nat) : Int)))], [(1, oR (.int 3) (mkAt (Sh.mk (.int 3)) (Sh.ct (.int 3)) x1 x0 i)), (2, oP 1 (S_laws_markIntS.hd us 0))]⟩ [] gamOK hT h (by kernel_rfl) trivial ?_
    intro a w h
    refine then_normal ?_
    refine wp_ret ?_
    exact at_returnI (S := S_laws_markIntS) (x := (x0, x1, ())) [1] [2] ((mkAt (Sh.mk (.int 3)) (Sh.ct (.int 3)) x1 x0 i), (x1, ())) (some ((x1 + ((ctL (Sh.ct (.int 3)) (List.take i x0) : Nat) : Int)), ())) [S_laws_markIntS.hd us 0 = S_laws_markIntS.hd us 0] hio h (by kernel_rfl) ⟨rfl, trivial⟩ (by first | rfl | (show ((mkAt (Sh.mk (.int 3)) (Sh.ct (.int 3)) x1 x0 i), (x1, ())) = ((Sh.mk s34) x0 x1, (x1, ())); rw [show ((mkAt (Sh.mk (.int 3)) (Sh.ct (.int 3)) x1 x0 i) : (List Int)) = (Sh.mk s34) x0 x1 from by exact mkAt_all (by omega)])) (fun z e => (Option.some.inj e) ▸ (congrArg (fun z => (z, ())) (show ((x1 + ((ctL (Sh.ct (.int 3)) (List.take i x0) : Nat) : Int))) = (mkK s34) x0 x1 from by (unfold mkK; rw [take_all (by omega)]; rfl))))

def S_laws_markEdgeS : Sum := { fid := 108, dom := [s49, (.int 3)], cod := [(.int 3)], dp := true, fz := false, pre := fun x => (pMk s49) x.1 x.2.1, g := fun x => (((mkK s49) x.1 x.2.1), ()), kinds := [.io, .rd], upd := fun x => ((Sh.mk s49) x.1 x.2.1, (x.2.1, ())) }
def S_laws_markEdgeS_tab : List (Nat × Sum) := []
theorem S_laws_markEdgeS_ok : FnOK Try.prog 108 S_laws_markEdgeS := by
  refine at_enterI 34 [1] [2] (fun us x => ⟨[(0, aS 1), (1, aI x.2.1)], [(1, oR s127 x.1), (2, oP 1 (S_laws_markEdgeS.hd us 0))]⟩) Try.func108 rfl (by kernel_rfl) (fun us x => rfl) ?_
  rintro w0 Z0 us ⟨x0, x1, u⟩ L a w
  revert x0 x1
  intro (x0 : (List T127)) (x1 : Int) hio hpre hlens h
  replace h : At w0 Z0 L 34 ⟨[(0, aS 1), (1, aI x1)], [(1, oR s127 x0), (2, oP 1 (S_laws_markEdgeS.hd us 0))]⟩ a w := h
  replace hpre : (pMk s49) x0 x1 := hpre
  have hl1 : List.length x0 ≤ 9223372036854775807 := hlens.1.1
  have hT : TabOK Try.prog S_laws_markEdgeS_tab := .nil
  have hp : 0 ≤ x1 ∧ x1 + ((Sh.ct s49 x0 : Nat) : Int) ≤ 4611686018427387904 := hpre
  have hct0 : Sh.ct s49 x0 = ctL (Sh.ct s127) x0 := rfl
  refine wp_seq ?_
  refine at_regq (T := S_laws_markEdgeS_tab) [] { ts := [0, 1, 4], os := [1, 2] } [] gamOK hT h (by kernel_rfl) trivial ?_
  intro a w h
  refine then_normal ?_
  refine wp_seq ?_
  refine wp_seq ?_
  refine at_regq (T := S_laws_markEdgeS_tab) [] { ts := [0, 1, 4, 5], os := [1, 2] } [] gamOK hT h (by kernel_rfl) trivial ?_
  intro a w h
  refine then_normal ?_
  refine wp_block ?_
  replace h := at_out (σ' := ⟨[(0, aS 1), (1, aI x1), (4, aI 0), (5, aI 0)], [(1, oR s127 x0), (2, oP 1 (S_laws_markEdgeS.hd us 0))]⟩) { ts := [0, 1, 4, 5], os := [1, 2] } h (by kernel_rfl)
  refine at_loop (fun i : Nat => (⟨[(0, aS 1), (1, aI (x1 + ((ctL (Sh.ct s127) (List.take i x0) : Nat) : Int))), (4, aI 0), (5, aI ((i : Nat) : Int))], [(1, oR s127 (mkAt (Sh.mk s127) (Sh.ct s127) x1 x0 i)), (2, oP 1 (S_laws_markEdgeS.hd us 0))]⟩ : St)) (fun i => i ≤ List.length x0) (fun i => List.length x0 - i) (0) h (st_congr3 (fun (d0 : List T127) (d1 : Int) (d2 : Int) => (⟨[(0, aS 1), (1, aI d1), (4, aI 0), (5, aI d2)], [(1, oR s127 d0), (2, oP 1 (S_laws_markEdgeS.hd us 0))]⟩ : St)) (show (x0 : List T127) = (mkAt (Sh.mk s127) (Sh.ct s127) x1 x0 (0)) from by first | rfl | (first | exact mkAt_zero.symm | simp [ctL])) (show (x1 : Int) = (x1 + ((ctL (Sh.ct s127) (List.take (0) x0) : Nat) : Int)) from by first | rfl | (first | exact mkAt_zero.symm | simp [ctL])) (show (0 : Int) = (((0) : Nat) : Int) from by first | rfl | (first | exact mkAt_zero.symm | simp [ctL]))) (by omega) ?_
  intro i a w hok0 h
  refine wp_seq ?_
  refine wp_seq ?_
  refine at_regq (T := S_laws_markEdgeS_tab) [] { ts := [0, 1, 4, 5, 9], os := [1, 2] } [] gamOK hT h (by kernel_rfl) trivial ?_
  intro a w h
  refine then_normal ?_
  refine at_test (decide (((i : Nat) : Int) < ((List.length (mkAt (Sh.mk s127) (Sh.ct s127) x1 x0 i) : Nat) : Int))) h (by kernel_rfl) (fun h1 => ?_) (fun h1 => ?_)
  · replace h1 : ((i : Nat) : Int) < ((List.length (mkAt (Sh.mk s127) (Sh.ct s127) x1 x0 i) : Nat) : Int) := of_decide_eq_true h1
    have hml : List.length (mkAt (Sh.mk s127) (Sh.ct s127) x1 x0 i) = List.length x0 := mkAt_len
    rw [hml] at h1
    have hat := ctL_at_le (c := Sh.ct s127) (xs := x0) (z := (0, (0, 0))) (i := i) (by omega)
    have hsu := ctL_take_succ (c := Sh.ct s127) (xs := x0) (z := (0, (0, 0))) (i := i) (by omega)
    have hci : Sh.ct s127 (x0.getD i (0, (0, 0))) = (1 + (1 + 1)) := rfl
    have hge : List.getD (mkAt (Sh.mk s127) (Sh.ct s127) x1 x0 i) i (0, (0, 0)) = (x0.getD i (0, (0, 0))) := mkAt_get (by omega)
    refine wp_skip ?_
    refine then_normal ?_
    refine wp_seq ?_
    refine wp_block ?_
    refine wp_seq ?_
    replace h := at_open (σ' := ⟨[(0, aS 1), (1, aI (x1 + ((ctL (Sh.ct s127) (List.take i x0) : Nat) : Int))), (4, aI 0), (5, aI ((i : Nat) : Int)), (9, aB (decide (((i : Nat) : Int) < ((List.length (mkAt (Sh.mk s127) (Sh.ct s127) x1 x0 i) : Nat) : Int))))], [(1, some (.op s127 (mkAt (Sh.mk s127) (Sh.ct s127) x1 x0 i) i [cI ((mkAt (Sh.mk s127) (Sh.ct s127) x1 x0 i).getD i (0, (0, 0))).1, cI ((mkAt (Sh.mk s127) (Sh.ct s127) x1 x0 i).getD i (0, (0, 0))).2.1, cI ((mkAt (Sh.mk s127) (Sh.ct s127) x1 x0 i).getD i (0, (0, 0))).2.2])), (2, oP 1 (S_laws_markEdgeS.hd us 0))]⟩) (ps := [i < List.length (mkAt (Sh.mk s127) (Sh.ct s127) x1 x0 i)]) 1 i [] { ts := [0, 1, 4, 5, 9], os := [1, 2] } h (by kernel_rfl) ⟨(by first | omega | ((try simp only [hge, mkK]); omega) | (simp only [List.length_append, List.length_cons, List.length_nil, List.length_set, List.length_take, List.length_drop, List.length_replicate, List.length_map, Nat.min_def, mkAt_len]; omega) | (simp; done) | (simp; omega)), trivial⟩
    refine at_reg (T := S_laws_markEdgeS_tab) [] { ts := [0, 1, 4, 5], os := [1, 2] } ⟨[(0, aS 1), (1, aI (x1 + ((ctL (Sh.ct s127) (List.take i x0) : Nat) : Int))), (4, aI 0), (5, aI ((i : Nat) : Int))], [(1, some (.op s127 (mkAt (Sh.mk s127) (Sh.ct s127) x1 x0 i) i [cI (x1 + ((ctL (Sh.ct s127) (List.take i x0) : Nat) : Int)), cI ((mkAt (Sh.mk s127) (Sh.ct s127) x1 x0 i).getD i (0, (0, 0))).2.1, cI ((mkAt (Sh.mk s127) (Sh.ct s127) x1 x0 i).getD i (0, (0, 0))).2.2])), (2, oP 1 (S_laws_markEdgeS.hd us 0))]⟩ [(0 : Int) ≤ ((i : Nat) : Int) ∧ ((i : Nat) : Int) < ((List.length (mkAt (Sh.mk s127) (Sh.ct s127) x1 x0 i) : Nat) : Int), i = i] gamOK hT h (by kernel_rfl) ⟨(by refine ⟨?_, ?_⟩ <;> (first | omega | ((try simp only [hge, mkK]); omega) | (simp only [List.length_append, List.length_cons, List.length_nil, List.length_set, List.length_take, List.length_drop, List.length_replicate, List.length_map, Nat.min_def, mkAt_len]; omega) | (simp; done) | (simp; omega))), rfl, trivial⟩ ?_
    intro a w h
    refine then_normal ?_
    refine wp_seq ?_
    refine at_regq (T := S_laws_markEdgeS_tab) [{}, { nw := true }] { ts := [0, 1, 4, 5], os := [1, 2] } [I64 ((x1 + ((ctL (Sh.ct s127) (List.take i x0) : Nat) : Int)) + 1)] gamOK hT h (by kernel_rfl) ⟨⟨by first | omega | ((try simp only [hge, mkK]); omega) | (simp only [List.length_append, List.length_cons, List.length_nil, List.length_set, List.length_take, List.length_drop, List.length_replicate, List.length_map, Nat.min_def, mkAt_len]; omega) | (simp; done) | (simp; omega), by first | omega | ((try simp only [hge, mkK]); omega) | (simp only [List.length_append, List.length_cons, List.length_nil, List.length_set, List.length_take, List.length_drop, List.length_replicate, List.length_map, Nat.min_def, mkAt_len]; omega) | (simp; done) | (simp; omega)⟩, trivial⟩ ?_
    intro a w h
    refine then_normal ?_
    refine wp_seq ?_
    refine at_regq (T := S_laws_markEdgeS_tab) [] { ts := [0, 1, 4, 5], os := [1, 2] } [(0 : Int) ≤ ((i : Nat) : Int) ∧ ((i : Nat) : Int) < ((List.length (mkAt (Sh.mk s127) (Sh.ct s127) x1 x0 i) : Nat) : Int), i = i] gamOK hT h (by kernel_rfl) ⟨(by refine ⟨?_, ?_⟩ <;> (first | omega | ((try simp only [hge, mkK]); omega) | (simp only [List.length_append, List.length_cons, List.length_nil, List.length_set, List.length_take, List.length_drop, List.length_replicate, List.length_map, Nat.min_def, mkAt_len]; omega) | (simp; done) | (simp; omega))), rfl, trivial⟩ ?_
    intro a w h
    refine then_normal ?_
    refine wp_seq ?_
    refine at_regq (T := S_laws_markEdgeS_tab) [{}, { nw := true }] { ts := [0, 1, 4, 5], os := [1, 2] } [I64 (((x1 + ((ctL (Sh.ct s127) (List.take i x0) : Nat) : Int)) + 1) + 1)] gamOK hT h (by kernel_rfl) ⟨⟨by first | omega | ((try simp only [hge, mkK]); omega) | (simp only [List.length_append, List.length_cons, List.length_nil, List.length_set, List.length_take, List.length_drop, List.length_replicate, List.length_map, Nat.min_def, mkAt_len]; omega) | (simp; done) | (simp; omega), by first | omega | ((try simp only [hge, mkK]); omega) | (simp only [List.length_append, List.length_cons, List.length_nil, List.length_set, List.length_take, List.length_drop, List.length_replicate, List.length_map, Nat.min_def, mkAt_len]; omega) | (simp; done) | (simp; omega)⟩, trivial⟩ ?_
    intro a w h
    refine then_normal ?_
    refine wp_seq ?_
    refine at_reg (T := S_laws_markEdgeS_tab) [] { ts := [0, 1, 4, 5], os := [1, 2] } ⟨[(0, aS 1), (1, aI (((x1 + ((ctL (Sh.ct s127) (List.take i x0) : Nat) : Int)) + 1) + 1)), (4, aI 0), (5, aI ((i : Nat) : Int))], [(1, some (.op s127 (mkAt (Sh.mk s127) (Sh.ct s127) x1 x0 i) i [cI (x1 + ((ctL (Sh.ct s127) (List.take i x0) : Nat) : Int)), cI ((x1 + ((ctL (Sh.ct s127) (List.take i x0) : Nat) : Int)) + 1), cI (((x1 + ((ctL (Sh.ct s127) (List.take i x0) : Nat) : Int)) + 1) + 1)])), (2, oP 1 (S_laws_markEdgeS.hd us 0))]⟩ [(0 : Int) ≤ ((i : Nat) : Int) ∧ ((i : Nat) : Int) < ((List.length (mkAt (Sh.mk s127) (Sh.ct s127) x1 x0 i) : Nat) : Int), i = i] gamOK hT h (by kernel_rfl) ⟨(by refine ⟨?_, ?_⟩ <;> (first | omega | ((try simp only [hge, mkK]); omega) | (simp only [List.length_append, List.length_cons, List.length_nil, List.length_set, List.length_take, List.length_drop, List.length_replicate, List.length_map, Nat.min_def, mkAt_len]; omega) | (simp; done) | (simp; omega))), rfl, trivial⟩ ?_
    intro a w h
    refine then_normal ?_
    refine at_regq (T := S_laws_markEdgeS_tab) [{}, { nw := true }] { ts := [0, 1, 4, 5], os := [1, 2] } [I64 ((((x1 + ((ctL (Sh.ct s127) (List.take i x0) : Nat) : Int)) + 1) + 1) + 1)] gamOK hT h (by kernel_rfl) ⟨⟨by first | omega | ((try simp only [hge, mkK]); omega) | (simp only [List.length_append, List.length_cons, List.length_nil, List.length_set, List.length_take, List.length_drop, List.length_replicate, List.length_map, Nat.min_def, mkAt_len]; omega) | (simp; done) | (simp; omega), by first | omega | ((try simp only [hge, mkK]); omega) | (simp only [List.length_append, List.length_cons, List.length_nil, List.length_set, List.length_take, List.length_drop, List.length_replicate, List.length_map, Nat.min_def, mkAt_len]; omega) | (simp; done) | (simp; omega)⟩, trivial⟩ ?_
    intro a w h
    refine in_normal ?_
    refine then_normal ?_
    refine at_regq (T := S_laws_markEdgeS_tab) [{}, { nw := true }] { ts := [0, 1, 4, 5], os := [1, 2] } [I64 (((i : Nat) : Int) + 1)] gamOK hT h (by kernel_rfl) ⟨⟨by first | omega | ((try simp only [hge, mkK]); omega) | (simp only [List.length_append, List.length_cons, List.length_nil, List.length_set, List.length_take, List.length_drop, List.length_replicate, List.length_map, Nat.min_def, mkAt_len]; omega) | (simp; done) | (simp; omega), by first | omega | ((try simp only [hge, mkK]); omega) | (simp only [List.length_append, List.length_cons, List.length_nil, List.length_set, List.length_take, List.length_drop, List.length_replicate, List.length_map, Nat.min_def, mkAt_len]; omega) | (simp; done) | (simp; omega)⟩, trivial⟩ ?_
    intro a w h
    replace h := at_shut (σ' := ⟨[(0, aS 1), (1, aI ((((x1 + ((ctL (Sh.ct s127) (List.take i x0) : Nat) : Int)) + 1) + 1) + 1)), (4, aI 0), (5, aI (((i : Nat) : Int) + 1))], [(1, oR s127 (List.set (mkAt (Sh.mk s127) (Sh.ct s127) x1 x0 i) i ((x1 + ((ctL (Sh.ct s127) (List.take i x0) : Nat) : Int)), ((x1 + ((ctL (Sh.ct s127) (List.take i x0) : Nat) : Int)) + 1, ((x1 + ((ctL (Sh.ct s127) (List.take i x0) : Nat) : Int)) + 1) + 1)))), (2, oP 1 (S_laws_markEdgeS.hd us 0))]⟩) (ps := []) 1 { ts := [0, 1, 4, 5], os := [1, 2] } h (by kernel_rfl) trivial
    replace h := at_out (σ' := ⟨[(0, aS 1), (1, aI ((((x1 + ((ctL (Sh.ct s127) (List.take i x0) : Nat) : Int)) + 1) + 1) + 1)), (4, aI 0), (5, aI (((i : Nat) : Int) + 1))], [(1, oR s127 (List.set (mkAt (Sh.mk s127) (Sh.ct s127) x1 x0 i) i ((x1 + ((ctL (Sh.ct s127) (List.take i x0) : Nat) : Int)), ((x1 + ((ctL (Sh.ct s127) (List.take i x0) : Nat) : Int)) + 1, ((x1 + ((ctL (Sh.ct s127) (List.take i x0) : Nat) : Int)) + 1) + 1)))), (2, oP 1 (S_laws_markEdgeS.hd us 0))]⟩) { ts := [0, 1, 4, 5], os := [1, 2] } h (by kernel_rfl)
    skip
    exact ⟨i + 1, at_eq h (st_congr3 (fun (d0 : List T127) (d1 : Int) (d2 : Int) => (⟨[(0, aS 1), (1, aI d1), (4, aI 0), (5, aI d2)], [(1, oR s127 d0), (2, oP 1 (S_laws_markEdgeS.hd us 0))]⟩ : St)) (show ((List.set (mkAt (Sh.mk s127) (Sh.ct s127) x1 x0 i) i ((x1 + ((ctL (Sh.ct s127) (List.take i x0) : Nat) : Int)), ((x1 + ((ctL (Sh.ct s127) (List.take i x0) : Nat) : Int)) + 1, ((x1 + ((ctL (Sh.ct s127) (List.take i x0) : Nat) : Int)) + 1) + 1))) : List T127) = (mkAt (Sh.mk s127) (Sh.ct s127) x1 x0 (i + 1)) from by first | rfl | (refine mkAt_set' (z := (0, (0, 0))) (by omega) ?_; first | (simp only [hge, mkK]; done) | ((try simp only [hge, mkK]); show _ = Sh.mk s127 (x0.getD i (0, (0, 0))) _; exact (Prod.ext (by show (_ : Int) = _; first | rfl | omega) (Prod.ext (by show (_ : Int) = _; first | rfl | omega) (by show (_ : Int) = _; first | rfl | omega)))))) (show ((((x1 + ((ctL (Sh.ct s127) (List.take i x0) : Nat) : Int)) + 1) + 1) + 1 : Int) = (x1 + ((ctL (Sh.ct s127) (List.take (i + 1) x0) : Nat) : Int)) from by first | rfl | (((try simp only [hge, mkK]); omega))) (show (((i : Nat) : Int) + 1 : Int) = (((i + 1) : Nat) : Int) from by first | rfl | (omega))), (by first | omega | (refine ⟨?_, ?_⟩ <;> omega)), (by omega)⟩
  · replace h1 : ¬ (((i : Nat) : Int) < ((List.length (mkAt (Sh.mk s127) (Sh.ct s127) x1 x0 i) : Nat) : Int)) := of_decide_eq_false h1
    have hml : List.length (mkAt (Sh.mk s127) (Sh.ct s127) x1 x0 i) = List.length x0 := mkAt_len
    rw [hml] at h1
    refine wp_exit ?_
    refine then_exit ?_
    refine then_exit ?_
    refine in_hit ?_
    refine then_normal ?_
    refine wp_seq ?_
    refine at_reg (T := S_laws_markEdgeS_tab) [] { ts := [4], os := [1, 2] } ⟨[(4, aI (x1 + ((ctL (Sh.ct s127) (List.take i x0) : Nat) : Int)))], [(1, oR s127 (mkAt (Sh.mk s127) (Sh.ct s127) x1 x0 i)), (2, oP 1 (S_laws_markEdgeS.hd us 0))]⟩ [] gamOK hT h (by kernel_rfl) trivial ?_
    intro a w h
    refine then_normal ?_
    refine wp_ret ?_
    exact at_returnI (S := S_laws_markEdgeS) (x := (x0, x1, ())) [1] [2] ((mkAt (Sh.mk s127) (Sh.ct s127) x1 x0 i), (x1, ())) (some ((x1 + ((ctL (Sh.ct s127) (List.take i x0) : Nat) : Int)), ())) [S_laws_markEdgeS.hd us 0 = S_laws_markEdgeS.hd us 0] hio h (by kernel_rfl) ⟨rfl, trivial⟩ (by first | rfl | (show ((mkAt (Sh.mk s127) (Sh.ct s127) x1 x0 i), (x1, ())) = ((Sh.mk s49) x0 x1, (x1, ())); rw [show ((mkAt (Sh.mk s127) (Sh.ct s127) x1 x0 i) : (List T127)) = (Sh.mk s49) x0 x1 from by exact mkAt_all (by omega)])) (fun z e => (Option.some.inj e) ▸ (congrArg (fun z => (z, ())) (show ((x1 + ((ctL (Sh.ct s127) (List.take i x0) : Nat) : Int))) = (mkK s49) x0 x1 from by (unfold mkK; rw [take_all (by omega)]; rfl))))

def S_laws_markGraph : Sum := { fid := 36, dom := [s51, (.int 3)], cod := [(.int 3)], dp := true, fz := false, pre := fun x => (pMkT s51) x.1 x.2.1, g := fun x => (((mkKT s51) x.1 x.2.1), ()), kinds := [.io, .rd], upd := fun x => ((Sh.mkT s51) x.1 x.2.1, (x.2.1, ())) }
def S_laws_markGraph_tab : List (Nat × Sum) := [(108, S_laws_markEdgeS)]
theorem S_laws_markGraph_ok : FnOK Try.prog 36 S_laws_markGraph := by
  refine at_enterI 10 [1] [2] (fun us x => ⟨[(0, aG [cI x.1.1, .sl 1]), (1, aI x.2.1)], [(1, oR s127 x.1.2), (2, oP 1 (S_laws_markGraph.hd us 0))]⟩) Try.func36 rfl (by kernel_rfl) (fun us x => rfl) ?_
  rintro w0 Z0 us ⟨x0, x1, u⟩ L a w
  revert x0 x1
  intro (x0 : T51) (x1 : Int) hio hpre hlens h
  replace h : At w0 Z0 L 10 ⟨[(0, aG [cI x0.1, .sl 1]), (1, aI x1)], [(1, oR s127 x0.2), (2, oP 1 (S_laws_markGraph.hd us 0))]⟩ a w := h
  replace hpre : (pMkT s51) x0 x1 := hpre
  have hl1 : List.length x0.2 ≤ 9223372036854775807 := hlens.1.2.1
  have hT : TabOK Try.prog S_laws_markGraph_tab := (.cons S_laws_markEdgeS_ok .nil)
  have hp : 0 ≤ x1 ∧ x1 + ((Sh.ctT s51 x0 : Nat) : Int) ≤ 4611686018427387904 := hpre
  have hct0 : Sh.ctT s51 x0 = (0 + (Sh.ct s49 x0.2)) := rfl
  refine wp_seq ?_
  refine at_regq (T := S_laws_markGraph_tab) [{ ids := [3] }] { ts := [1, 2, 4], os := [1, 2, 3] } [] gamOK hT h (by kernel_rfl) trivial ?_
  intro a w h
  refine then_normal ?_
  refine wp_seq ?_
  refine at_regq (T := S_laws_markGraph_tab) [] { ts := [1, 4], os := [1, 2] } [(pMk s49) x0.2 x1] gamOK hT h (by kernel_rfl) ⟨(by (first | (show (0 : Int) ≤ _ ∧ _ + ((Sh.ct _ _ : Nat) : Int) ≤ (4611686018427387904 : Int); (try simp only [mkK, mkKT]); constructor <;> omega) | (show (0 : Int) ≤ _ ∧ _ + ((Sh.ctT _ _ : Nat) : Int) ≤ (4611686018427387904 : Int); (try simp only [mkK, mkKT]); constructor <;> omega))), trivial⟩ ?_
  intro a w h
  refine then_normal ?_
  refine wp_seq ?_
  refine at_regq (T := S_laws_markGraph_tab) [] { ts := [4], os := [1, 2] } [] gamOK hT h (by kernel_rfl) trivial ?_
  intro a w h
  refine then_normal ?_
  refine wp_ret ?_
  exact at_returnI (S := S_laws_markGraph) (x := (x0, x1, ())) [1] [2] ((x0.1, ((Sh.mk s49) x0.2 x1)), (x1, ())) (some (((mkK s49) x0.2 x1), ())) [S_laws_markGraph.hd us 0 = S_laws_markGraph.hd us 0] hio h (by kernel_rfl) ⟨rfl, trivial⟩ (by first | rfl | (show ((x0.1, ((Sh.mk s49) x0.2 x1)), (x1, ())) = ((Sh.mkT s51) x0 x1, (x1, ())); rw [show ((x0.1, ((Sh.mk s49) x0.2 x1)) : T51) = (Sh.mkT s51) x0 x1 from by show _ = Sh.mkT s51 x0 x1; exact (Prod.ext rfl (congrArg (fun k => Sh.mk s49 x0.2 k) (show (_ : Int) = x1 + ((0 : Nat) : Int) from by first | rfl | ((try simp only [mkK, mkKT]); omega))))])) (fun z e => (Option.some.inj e) ▸ (congrArg (fun z => (z, ())) (show (((mkK s49) x0.2 x1)) = (mkKT s51) x0 x1 from by ((try simp only [mkK, mkKT]); omega))))

def S_laws_szEdgeS : Sum := { fid := 99, dom := [s45, (.int 3)], cod := [(.int 3)], dp := true, fz := false, pre := fun x => (pSz s45) x.1 x.2.1, g := fun x => (((szD s45) x.1 x.2.1), ()) }
def S_laws_szEdgeS_tab : List (Nat × Sum) := []
theorem S_laws_szEdgeS_ok : FnOK Try.prog 99 S_laws_szEdgeS := by
  refine at_enter 12 (fun x => ⟨[(0, aF s171 x.1), (1, aI x.2.1)], []⟩) Try.func99 rfl (by kernel_rfl) (fun x => rfl) ?_
  rintro w0 Z0 ⟨x0, x1, u⟩ a w
  revert x0 x1
  intro (x0 : (List T171)) (x1 : Int) hpre hlens h
  replace h : At w0 Z0 [] 12 ⟨[(0, aF s171 x0), (1, aI x1)], []⟩ a w := h
  replace hpre : (pSz s45) x0 x1 := hpre
  have hl1 : List.length x0 ≤ 9223372036854775807 := hlens.1.1
  have hT : TabOK Try.prog S_laws_szEdgeS_tab := .nil
  have hp : 0 ≤ x1 ∧ x1 ≤ 9223372036854775807 := hpre
  refine wp_seq ?_
  refine at_regq (T := S_laws_szEdgeS_tab) [] { ts := [0, 1, 4], os := [] } [] gamOK hT h (by kernel_rfl) trivial ?_
  intro a w h
  refine then_normal ?_
  refine wp_seq ?_
  refine at_regq (T := S_laws_szEdgeS_tab) [{}, {}, {}, { nw := true }] { ts := [1, 4], os := [] } [I64 (x1 - ((List.length x0 : Nat) : Int))] gamOK hT h (by kernel_rfl) ⟨⟨by first | omega | (simp only [List.length_append, List.length_cons, List.length_nil, List.length_set, List.length_take, List.length_drop, List.length_replicate, List.length_map, Nat.min_def]; omega) | (simp; done) | (simp; omega) | done, by first | omega | (simp only [List.length_append, List.length_cons, List.length_nil, List.length_set, List.length_take, List.length_drop, List.length_replicate, List.length_map, Nat.min_def]; omega) | (simp; done) | (simp; omega) | done⟩, trivial⟩ ?_
  intro a w h
  refine then_normal ?_
  refine wp_seq ?_
  refine wp_seq ?_
  refine at_regq (T := S_laws_szEdgeS_tab) [] { ts := [1, 4, 10], os := [] } [] gamOK hT h (by kernel_rfl) trivial ?_
  intro a w h
  refine then_normal ?_
  refine at_test (decide (x1 - ((List.length x0 : Nat) : Int) < 0)) h (by kernel_rfl) (fun h1 => ?_) (fun h1 => ?_)
  · replace h1 : x1 - ((List.length x0 : Nat) : Int) < 0 := of_decide_eq_true h1
    refine wp_seq ?_
    refine at_reg (T := S_laws_szEdgeS_tab) [] { ts := [1, 4], os := [] } ⟨[(1, aI (x1 - ((List.length x0 : Nat) : Int))), (4, aI (-1))], []⟩ [] gamOK hT h (by kernel_rfl) trivial ?_
    intro a w h
    refine then_normal ?_
    refine wp_ret ?_
    refine then_ret ?_
    exact at_return (S := S_laws_szEdgeS) (x := (x0, x1, ())) ((-1), ()) [] h (by kernel_rfl) trivial (congrArg (fun z => (z, ())) (show ((-1)) = (szD s45) x0 x1 from by exact (szD_no (by rw [sz_flat (by rfl)]; omega)).symm))
  · replace h1 : ¬ (x1 - ((List.length x0 : Nat) : Int) < 0) := of_decide_eq_false h1
    refine wp_skip ?_
    refine then_normal ?_
    refine wp_seq ?_
    refine at_reg (T := S_laws_szEdgeS_tab) [] { ts := [4], os := [] } ⟨[(4, aI (x1 - ((List.length x0 : Nat) : Int)))], []⟩ [] gamOK hT h (by kernel_rfl) trivial ?_
    intro a w h
    refine then_normal ?_
    refine wp_ret ?_
    exact at_return (S := S_laws_szEdgeS) (x := (x0, x1, ())) (x1 - ((List.length x0 : Nat) : Int), ()) [] h (by kernel_rfl) trivial (congrArg (fun z => (z, ())) (show (x1 - ((List.length x0 : Nat) : Int)) = (szD s45) x0 x1 from by exact ((szD_ok (by rw [sz_flat (by rfl)]; omega)).trans (by rw [sz_flat (by rfl)])).symm))

def S_laws_szGraph : Sum := { fid := 29, dom := [s47, (.int 3)], cod := [(.int 3)], dp := true, fz := false, pre := fun x => (pSz s47) x.1 x.2.1, g := fun x => (((szD s47) x.1 x.2.1), ()) }
def S_laws_szGraph_tab : List (Nat × Sum) := [(99, S_laws_szEdgeS)]
theorem S_laws_szGraph_ok : FnOK Try.prog 29 S_laws_szGraph := by
  refine at_enter 12 (fun x => ⟨[(0, aG [cI x.1.1, .ro s171 x.1.2]), (1, aI x.2.1)], []⟩) Try.func29 rfl (by kernel_rfl) (fun x => rfl) ?_
  rintro w0 Z0 ⟨x0, x1, u⟩ a w
  revert x0 x1
  intro (x0 : T47) (x1 : Int) hpre hlens h
  replace h : At w0 Z0 [] 12 ⟨[(0, aG [cI x0.1, .ro s171 x0.2]), (1, aI x1)], []⟩ a w := h
  replace hpre : (pSz s47) x0 x1 := hpre
  have hl1 : List.length x0.2 ≤ 9223372036854775807 := hlens.1.2.1
  have hT : TabOK Try.prog S_laws_szGraph_tab := (.cons S_laws_szEdgeS_ok .nil)
  have hp : 0 ≤ x1 ∧ x1 ≤ 9223372036854775807 := hpre
  have hsz : Sh.sz s47 x0 = (0 + (Sh.sz s45 x0.2)) := rfl
  refine wp_seq ?_
  refine at_regq (T := S_laws_szGraph_tab) [{ ids := [1] }] { ts := [1, 2, 4], os := [1] } [] gamOK hT h (by kernel_rfl) trivial ?_
  intro a w h
  refine then_normal ?_
  refine wp_seq ?_
  refine at_regq (T := S_laws_szGraph_tab) [] { ts := [1, 4], os := [] } [(pSz s45) x0.2 x1] gamOK hT h (by kernel_rfl) ⟨(by (show (0 : Int) ≤ _ ∧ _ ≤ (9223372036854775807 : Int); constructor <;> omega)), trivial⟩ ?_
  intro a w h
  refine then_normal ?_
  refine wp_seq ?_
  refine wp_seq ?_
  refine at_regq (T := S_laws_szGraph_tab) [] { ts := [1, 4, 10], os := [] } [] gamOK hT h (by kernel_rfl) trivial ?_
  intro a w h
  refine then_normal ?_
  refine at_test (decide (((szD s45) x0.2 x1) < 0)) h (by kernel_rfl) (fun h1 => ?_) (fun h1 => ?_)
  · replace h1 : ((szD s45) x0.2 x1) < 0 := of_decide_eq_true h1
    have hvh1 := szD_neg h1 (by omega)
    refine wp_seq ?_
    refine at_reg (T := S_laws_szGraph_tab) [] { ts := [1, 4], os := [] } ⟨[(1, aI ((szD s45) x0.2 x1)), (4, aI (-1))], []⟩ [] gamOK hT h (by kernel_rfl) trivial ?_
    intro a w h
    refine then_normal ?_
    refine wp_ret ?_
    refine then_ret ?_
    exact at_return (S := S_laws_szGraph) (x := (x0, x1, ())) ((-1), ()) [] h (by kernel_rfl) trivial (congrArg (fun z => (z, ())) (show ((-1)) = (szD s47) x0 x1 from by (first | exact (szD_no (by omega)).symm | exact ((szD_ok (by omega)).trans (by omega)).symm)))
  · replace h1 : ¬ (((szD s45) x0.2 x1) < 0) := of_decide_eq_false h1
    have hvh1 := szD_val h1 (by omega)
    refine wp_skip ?_
    refine then_normal ?_
    refine wp_seq ?_
    refine at_reg (T := S_laws_szGraph_tab) [] { ts := [4], os := [] } ⟨[(4, aI ((szD s45) x0.2 x1))], []⟩ [] gamOK hT h (by kernel_rfl) trivial ?_
    intro a w h
    refine then_normal ?_
    refine wp_ret ?_
    exact at_return (S := S_laws_szGraph) (x := (x0, x1, ())) (((szD s45) x0.2 x1), ()) [] h (by kernel_rfl) trivial (congrArg (fun z => (z, ())) (show (((szD s45) x0.2 x1)) = (szD s47) x0 x1 from by (first | exact (szD_no (by omega)).symm | exact ((szD_ok (by omega)).trans (by omega)).symm)))

def S_laws_toIntS : Sum := { fid := 32, dom := [s34], cod := [s34], dp := true, fz := false, pre := fun x => (pTo s34) x.1, g := fun x => (((idD s34) x.1), ()) }
def S_laws_toIntS_tab : List (Nat × Sum) := []
theorem S_laws_toIntS_ok : FnOK Try.prog 32 S_laws_toIntS := by
  refine at_enter 22 (fun x => ⟨[(0, aF (.int 3) x.1)], []⟩) Try.func32 rfl (by kernel_rfl) (fun x => rfl) ?_
  rintro w0 Z0 ⟨x0, u⟩ a w
  revert x0
  intro (x0 : (List Int)) hpre hlens h
  replace h : At w0 Z0 [] 22 ⟨[(0, aF (.int 3) x0)], []⟩ a w := h
  replace hpre : (pTo s34) x0 := hpre
  have hl1 : List.length x0 ≤ 9223372036854775807 := hlens.1.1
  have hT : TabOK Try.prog S_laws_toIntS_tab := .nil
  have hp : Sh.sz s34 x0 ≤ 1048576 := hpre
  have hsz : Sh.sz s34 x0 = List.length x0 + ctL (Sh.sz (.int 3)) x0 := rfl
  refine wp_seq ?_
  refine at_regq (T := S_laws_toIntS_tab) [] { ts := [0, 2], os := [] } [] gamOK hT h (by kernel_rfl) trivial ?_
  intro a w h
  refine then_normal ?_
  refine wp_seq ?_
  refine at_regq (T := S_laws_toIntS_tab) [{}, {}, { ids := [1] }] { ts := [0, 2, 3], os := [1] } [(0 : Int) ≤ ((List.length x0 : Nat) : Int) ∧ ((List.length x0 : Nat) : Int) = ((List.length x0 : Nat) : Int) ∧ ((List.length x0 : Nat) : Int) * (8 : Nat) ≤ (140737488355328 : Int)] gamOK hT h (by kernel_rfl) ⟨(by refine ⟨?_, ?_, ?_⟩ <;> ((have hA0 := mul_f ((List.length x0 : Nat) : Int) (8 : Nat); first | omega | (simp only [List.length_append, List.length_cons, List.length_nil, List.length_set, List.length_take, List.length_drop, List.length_replicate, List.length_map, Nat.min_def, copyTo_len hok0]; omega) | (simp; done) | (simp; omega) | done))), trivial⟩ ?_
  intro a w h
  refine then_normal ?_
  refine wp_seq ?_
  refine wp_seq ?_
  refine at_regq (T := S_laws_toIntS_tab) [] { ts := [0, 2, 3, 4], os := [1] } [] gamOK hT h (by kernel_rfl) trivial ?_
  intro a w h
  refine then_normal ?_
  refine wp_block ?_
  replace h := at_out (σ' := ⟨[(0, aF (.int 3) x0), (2, .p (.c (cN))), (3, aS 1), (4, aI 0)], [(1, oR (.int 3) (List.replicate (List.length x0) 0))]⟩) { ts := [0, 2, 3, 4], os := [1] } h (by kernel_rfl)
  refine at_loop (fun i : Nat => (⟨[(0, aF (.int 3) x0), (2, .p (.c (cN))), (3, aS 1), (4, aI ((i : Nat) : Int))], [(1, oR (.int 3) (copyTo 0 x0 i))]⟩ : St)) (fun i => i ≤ List.length x0) (fun i => List.length x0 - i) (0) h (st_congr2 (fun (d0 : List Int) (d1 : Int) => (⟨[(0, aF (.int 3) x0), (2, .p (.c (cN))), (3, aS 1), (4, aI d1)], [(1, oR (.int 3) d0)]⟩ : St)) (show ((List.replicate (List.length x0) 0) : List Int) = (copyTo 0 x0 (0)) from by first | rfl | (exact copyTo_zero)) (show (0 : Int) = (((0) : Nat) : Int) from by first | rfl | (exact copyTo_zero))) (by first | omega | simp | (refine ⟨?_, ?_⟩ <;> first | omega | simp)) ?_
  intro i a w hok0 h
  refine wp_seq ?_
  refine wp_seq ?_
  refine at_reg (T := S_laws_toIntS_tab) [] { ts := [0, 2, 3, 4, 11], os := [1] } ⟨[(0, aF (.int 3) x0), (2, .p (.c (cN))), (3, aS 1), (4, aI ((i : Nat) : Int)), (11, aB (decide (((i : Nat) : Int) < ((List.length x0 : Nat) : Int))))], [(1, oR (.int 3) (copyTo 0 x0 i))]⟩ [] gamOK hT h (by kernel_rfl) trivial ?_
  intro a w h
  refine then_normal ?_
  refine at_test (decide (((i : Nat) : Int) < ((List.length x0 : Nat) : Int))) h (by kernel_rfl) (fun h1 => ?_) (fun h1 => ?_)
  · replace h1 : ((i : Nat) : Int) < ((List.length x0 : Nat) : Int) := of_decide_eq_true h1
    have hat := ctL_at_le (c := Sh.sz (.int 3)) (xs := x0) (z := 0) (i := i) (by omega)
    refine wp_skip ?_
    refine then_normal ?_
    refine wp_seq ?_
    refine wp_block ?_
    refine at_regq (T := S_laws_toIntS_tab) [] { ts := [0, 2, 3, 4], os := [1] } [(0 : Int) ≤ ((i : Nat) : Int) ∧ ((i : Nat) : Int) < ((List.length x0 : Nat) : Int), (0 : Int) ≤ ((i : Nat) : Int) ∧ ((i : Nat) : Int) < ((List.length (copyTo 0 x0 i) : Nat) : Int), i < List.length (copyTo 0 x0 i)] gamOK hT h (by kernel_rfl) ⟨(by refine ⟨?_, ?_⟩ <;> (first | omega | (simp only [List.length_append, List.length_cons, List.length_nil, List.length_set, List.length_take, List.length_drop, List.length_replicate, List.length_map, Nat.min_def, copyTo_len hok0]; omega) | (simp; done) | (simp; omega) | done)), (by refine ⟨?_, ?_⟩ <;> (first | omega | (simp only [List.length_append, List.length_cons, List.length_nil, List.length_set, List.length_take, List.length_drop, List.length_replicate, List.length_map, Nat.min_def, copyTo_len hok0]; omega) | (simp; done) | (simp; omega) | done)), (by first | omega | (simp only [List.length_append, List.length_cons, List.length_nil, List.length_set, List.length_take, List.length_drop, List.length_replicate, List.length_map, Nat.min_def, copyTo_len hok0]; omega) | (simp; done) | (simp; omega) | done), trivial⟩ ?_
    intro a w h
    refine in_normal ?_
    refine then_normal ?_
    refine at_regq (T := S_laws_toIntS_tab) [{}, { nw := true }] { ts := [0, 2, 3, 4], os := [1] } [I64 (((i : Nat) : Int) + 1)] gamOK hT h (by kernel_rfl) ⟨⟨by first | omega | (simp only [List.length_append, List.length_cons, List.length_nil, List.length_set, List.length_take, List.length_drop, List.length_replicate, List.length_map, Nat.min_def, copyTo_len hok0]; omega) | (simp; done) | (simp; omega) | done, by first | omega | (simp only [List.length_append, List.length_cons, List.length_nil, List.length_set, List.length_take, List.length_drop, List.length_replicate, List.length_map, Nat.min_def, copyTo_len hok0]; omega) | (simp; done) | (simp; omega) | done⟩, trivial⟩ ?_
    intro a w h
    replace h := at_out (σ' := ⟨[(0, aF (.int 3) x0), (2, .p (.c (cN))), (3, aS 1), (4, aI (((i : Nat) : Int) + 1))], [(1, oR (.int 3) (List.set (copyTo 0 x0 i) i (x0.getD i 0)))]⟩) { ts := [0, 2, 3, 4], os := [1] } h (by kernel_rfl)
    exact ⟨i + 1, at_eq h (st_congr2 (fun (d0 : List Int) (d1 : Int) => (⟨[(0, aF (.int 3) x0), (2, .p (.c (cN))), (3, aS 1), (4, aI d1)], [(1, oR (.int 3) d0)]⟩ : St)) (show ((List.set (copyTo 0 x0 i) i (x0.getD i 0)) : List Int) = (copyTo 0 x0 (i + 1)) from by first | rfl | (exact copyTo_set (by omega))) (show (((i : Nat) : Int) + 1 : Int) = (((i + 1) : Nat) : Int) from by first | rfl | (omega))), (by first | omega | (refine ⟨?_, ?_⟩ <;> omega)), (by omega)⟩
  · replace h1 : ¬ (((i : Nat) : Int) < ((List.length x0 : Nat) : Int)) := of_decide_eq_false h1
    refine wp_exit ?_
    refine then_exit ?_
    refine then_exit ?_
    refine in_hit ?_
    refine then_normal ?_
    refine wp_seq ?_
    refine at_regq (T := S_laws_toIntS_tab) [] { ts := [2], os := [1] } [] gamOK hT h (by kernel_rfl) trivial ?_
    intro a w h
    refine then_normal ?_
    refine wp_ret ?_
    exact at_return (S := S_laws_toIntS) (x := (x0, ())) ((copyTo 0 x0 i), ()) [] h (by kernel_rfl) trivial (congrArg (fun z => (z, ())) (show ((copyTo 0 x0 i)) = (idD s34) x0 from by (rw [copyTo_all (by omega)]; rfl)))

def S_laws_toEdge : Sum := { fid := 155, dom := [s171], cod := [s127], dp := true, fz := false, pre := fun x => (pTo s171) x.1, g := fun x => (((idD s171) x.1), ()) }
def S_laws_toEdge_tab : List (Nat × Sum) := []
theorem S_laws_toEdge_ok : FnOK Try.prog 155 S_laws_toEdge := by
  refine at_enter 14 (fun x => ⟨[(0, aG [cI x.1.1, cI x.1.2.1, cI x.1.2.2])], []⟩) Try.func155 rfl (by kernel_rfl) (fun x => rfl) ?_
  rintro w0 Z0 ⟨x0, u⟩ a w
  revert x0
  intro (x0 : T171) hpre hlens h
  replace h : At w0 Z0 [] 14 ⟨[(0, aG [cI x0.1, cI x0.2.1, cI x0.2.2])], []⟩ a w := h
  replace hpre : (pTo s171) x0 := hpre
  have hT : TabOK Try.prog S_laws_toEdge_tab := .nil
  have hp : Sh.sz s171 x0 ≤ 1048576 := hpre
  have hsz : Sh.sz s171 x0 = (0 + (0 + 0)) := rfl
  refine wp_seq ?_
  refine at_regq (T := S_laws_toEdge_tab) [{ ids := [1] }, { ids := [2] }] { ts := [1, 2], os := [1, 2] } [] gamOK hT h (by kernel_rfl) trivial ?_
  intro a w h
  refine then_normal ?_
  refine wp_seq ?_
  refine at_regq (T := S_laws_toEdge_tab) [{ ids := [3] }] { ts := [1, 2, 3], os := [1, 2, 3] } [] gamOK hT h (by kernel_rfl) trivial ?_
  intro a w h
  refine then_normal ?_
  refine wp_seq ?_
  refine at_regq (T := S_laws_toEdge_tab) [] { ts := [1, 2, 3], os := [1, 2, 3] } [] gamOK hT h (by kernel_rfl) trivial ?_
  intro a w h
  refine then_normal ?_
  refine wp_seq ?_
  refine at_reg (T := S_laws_toEdge_tab) [] { ts := [1, 2, 3], os := [1, 2, 3] } ⟨[(1, aP 1 0), (2, aP 2 0), (3, aP 3 0)], [(1, oX 171 [cI x0.1, cI x0.2.1, cI x0.2.2]), (2, oX 127 [cI 0, cI 0, cI 0]), (3, oX 127 [cI x0.1, cI x0.2.1, cI 0])]⟩ [] gamOK hT h (by kernel_rfl) trivial ?_
  intro a w h
  refine then_normal ?_
  refine wp_seq ?_
  refine at_regq (T := S_laws_toEdge_tab) [] { ts := [2, 3], os := [2, 3] } [] gamOK hT h (by kernel_rfl) trivial ?_
  intro a w h
  refine then_normal ?_
  refine wp_seq ?_
  refine at_regq (T := S_laws_toEdge_tab) [] { ts := [2], os := [2] } [] gamOK hT h (by kernel_rfl) trivial ?_
  intro a w h
  refine then_normal ?_
  refine wp_ret ?_
  exact at_return (S := S_laws_toEdge) (x := (x0, ())) (x0, ()) [] h (by kernel_rfl) trivial (congrArg (fun z => (z, ())) (show (x0) = (idD s171) x0 from by rfl))

def S_laws_toEdgeS : Sum := { fid := 101, dom := [s45], cod := [s49], dp := true, fz := false, pre := fun x => (pTo s45) x.1, g := fun x => (((idD s45) x.1), ()) }
def S_laws_toEdgeS_tab : List (Nat × Sum) := [(155, S_laws_toEdge)]
theorem S_laws_toEdgeS_ok : FnOK Try.prog 101 S_laws_toEdgeS := by
  refine at_enter 23 (fun x => ⟨[(0, aF s171 x.1)], []⟩) Try.func101 rfl (by kernel_rfl) (fun x => rfl) ?_
  rintro w0 Z0 ⟨x0, u⟩ a w
  revert x0
  intro (x0 : (List T171)) hpre hlens h
  replace h : At w0 Z0 [] 23 ⟨[(0, aF s171 x0)], []⟩ a w := h
  replace hpre : (pTo s45) x0 := hpre
  have hl1 : List.length x0 ≤ 9223372036854775807 := hlens.1.1
  have hT : TabOK Try.prog S_laws_toEdgeS_tab := (.cons S_laws_toEdge_ok .nil)
  have hp : Sh.sz s45 x0 ≤ 1048576 := hpre
  have hsz : Sh.sz s45 x0 = List.length x0 + ctL (Sh.sz s171) x0 := rfl
  refine wp_seq ?_
  refine at_regq (T := S_laws_toEdgeS_tab) [] { ts := [0, 2], os := [] } [] gamOK hT h (by kernel_rfl) trivial ?_
  intro a w h
  refine then_normal ?_
  refine wp_seq ?_
  refine at_regq (T := S_laws_toEdgeS_tab) [{}, {}, { ids := [1] }] { ts := [0, 2, 3], os := [1] } [(0 : Int) ≤ ((List.length x0 : Nat) : Int) ∧ ((List.length x0 : Nat) : Int) = ((List.length x0 : Nat) : Int) ∧ ((List.length x0 : Nat) : Int) * (24 : Nat) ≤ (140737488355328 : Int)] gamOK hT h (by kernel_rfl) ⟨(by refine ⟨?_, ?_, ?_⟩ <;> ((have hA0 := mul_f ((List.length x0 : Nat) : Int) (24 : Nat); first | omega | (simp only [List.length_append, List.length_cons, List.length_nil, List.length_set, List.length_take, List.length_drop, List.length_replicate, List.length_map, Nat.min_def, copyTo_len hok0]; omega) | (simp; done) | (simp; omega) | done))), trivial⟩ ?_
  intro a w h
  refine then_normal ?_
  refine wp_seq ?_
  refine wp_seq ?_
  refine at_regq (T := S_laws_toEdgeS_tab) [] { ts := [0, 2, 3, 4], os := [1] } [] gamOK hT h (by kernel_rfl) trivial ?_
  intro a w h
  refine then_normal ?_
  refine wp_block ?_
  replace h := at_out (σ' := ⟨[(0, aF s171 x0), (2, .p (.c (cN))), (3, aS 1), (4, aI 0)], [(1, oR s127 (List.replicate (List.length x0) (0, (0, 0))))]⟩) { ts := [0, 2, 3, 4], os := [1] } h (by kernel_rfl)
  refine at_loop (fun i : Nat => (⟨[(0, aF s171 x0), (2, .p (.c (cN))), (3, aS 1), (4, aI ((i : Nat) : Int))], [(1, oR s127 (copyTo (0, (0, 0)) x0 i))]⟩ : St)) (fun i => i ≤ List.length x0) (fun i => List.length x0 - i) (0) h (st_congr2 (fun (d0 : List T127) (d1 : Int) => (⟨[(0, aF s171 x0), (2, .p (.c (cN))), (3, aS 1), (4, aI d1)], [(1, oR s127 d0)]⟩ : St)) (show ((List.replicate (List.length x0) (0, (0, 0))) : List T127) = (copyTo (0, (0, 0)) x0 (0)) from by first | rfl | (exact copyTo_zero)) (show (0 : Int) = (((0) : Nat) : Int) from by first | rfl | (exact copyTo_zero))) (by first | omega | simp | (refine ⟨?_, ?_⟩ <;> first | omega | simp)) ?_
  intro i a w hok0 h
  refine wp_seq ?_
  refine wp_seq ?_
  refine at_reg (T := S_laws_toEdgeS_tab) [] { ts := [0, 2, 3, 4, 11], os := [1] } ⟨[(0, aF s171 x0), (2, .p (.c (cN))), (3, aS 1), (4, aI ((i : Nat) : Int)), (11, aB (decide (((i : Nat) : Int) < ((List.length x0 : Nat) : Int))))], [(1, oR s127 (copyTo (0, (0, 0)) x0 i))]⟩ [] gamOK hT h (by kernel_rfl) trivial ?_
  intro a w h
  refine then_normal ?_
  refine at_test (decide (((i : Nat) : Int) < ((List.length x0 : Nat) : Int))) h (by kernel_rfl) (fun h1 => ?_) (fun h1 => ?_)
  · replace h1 : ((i : Nat) : Int) < ((List.length x0 : Nat) : Int) := of_decide_eq_true h1
    have hat := ctL_at_le (c := Sh.sz s171) (xs := x0) (z := (0, (0, 0))) (i := i) (by omega)
    refine wp_skip ?_
    refine then_normal ?_
    refine wp_seq ?_
    refine wp_block ?_
    refine at_regq (T := S_laws_toEdgeS_tab) [] { ts := [0, 2, 3, 4], os := [1] } [(0 : Int) ≤ ((i : Nat) : Int) ∧ ((i : Nat) : Int) < ((List.length x0 : Nat) : Int), (pTo s171) (x0.getD i (0, (0, 0))), (0 : Int) ≤ ((i : Nat) : Int) ∧ ((i : Nat) : Int) < ((List.length (copyTo (0, (0, 0)) x0 i) : Nat) : Int), i < List.length (copyTo (0, (0, 0)) x0 i)] gamOK hT h (by kernel_rfl) ⟨(by refine ⟨?_, ?_⟩ <;> (first | omega | (simp only [List.length_append, List.length_cons, List.length_nil, List.length_set, List.length_take, List.length_drop, List.length_replicate, List.length_map, Nat.min_def, copyTo_len hok0]; omega) | (simp; done) | (simp; omega) | done)), (by (show Sh.sz _ _ ≤ 1048576; omega)), (by refine ⟨?_, ?_⟩ <;> (first | omega | (simp only [List.length_append, List.length_cons, List.length_nil, List.length_set, List.length_take, List.length_drop, List.length_replicate, List.length_map, Nat.min_def, copyTo_len hok0]; omega) | (simp; done) | (simp; omega) | done)), (by first | omega | (simp only [List.length_append, List.length_cons, List.length_nil, List.length_set, List.length_take, List.length_drop, List.length_replicate, List.length_map, Nat.min_def, copyTo_len hok0]; omega) | (simp; done) | (simp; omega) | done), trivial⟩ ?_
    intro a w h
    refine in_normal ?_
    refine then_normal ?_
    refine at_regq (T := S_laws_toEdgeS_tab) [{}, { nw := true }] { ts := [0, 2, 3, 4], os := [1] } [I64 (((i : Nat) : Int) + 1)] gamOK hT h (by kernel_rfl) ⟨⟨by first | omega | (simp only [List.length_append, List.length_cons, List.length_nil, List.length_set, List.length_take, List.length_drop, List.length_replicate, List.length_map, Nat.min_def, copyTo_len hok0]; omega) | (simp; done) | (simp; omega) | done, by first | omega | (simp only [List.length_append, List.length_cons, List.length_nil, List.length_set, List.length_take, List.length_drop, List.length_replicate, List.length_map, Nat.min_def, copyTo_len hok0]; omega) | (simp; done) | (simp; omega) | done⟩, trivial⟩ ?_
    intro a w h
    replace h := at_out (σ' := ⟨[(0, aF s171 x0), (2, .p (.c (cN))), (3, aS 1), (4, aI (((i : Nat) : Int) + 1))], [(1, oR s127 (List.set (copyTo (0, (0, 0)) x0 i) i (x0.getD i (0, (0, 0)))))]⟩) { ts := [0, 2, 3, 4], os := [1] } h (by kernel_rfl)
    exact ⟨i + 1, at_eq h (st_congr2 (fun (d0 : List T127) (d1 : Int) => (⟨[(0, aF s171 x0), (2, .p (.c (cN))), (3, aS 1), (4, aI d1)], [(1, oR s127 d0)]⟩ : St)) (show ((List.set (copyTo (0, (0, 0)) x0 i) i (x0.getD i (0, (0, 0)))) : List T127) = (copyTo (0, (0, 0)) x0 (i + 1)) from by first | rfl | (exact copyTo_set (by omega))) (show (((i : Nat) : Int) + 1 : Int) = (((i + 1) : Nat) : Int) from by first | rfl | (omega))), (by first | omega | (refine ⟨?_, ?_⟩ <;> omega)), (by omega)⟩
  · replace h1 : ¬ (((i : Nat) : Int) < ((List.length x0 : Nat) : Int)) := of_decide_eq_false h1
    refine wp_exit ?_
    refine then_exit ?_
    refine then_exit ?_
    refine in_hit ?_
    refine then_normal ?_
    refine wp_seq ?_
    refine at_regq (T := S_laws_toEdgeS_tab) [] { ts := [2], os := [1] } [] gamOK hT h (by kernel_rfl) trivial ?_
    intro a w h
    refine then_normal ?_
    refine wp_ret ?_
    exact at_return (S := S_laws_toEdgeS) (x := (x0, ())) ((copyTo (0, (0, 0)) x0 i), ()) [] h (by kernel_rfl) trivial (congrArg (fun z => (z, ())) (show ((copyTo (0, (0, 0)) x0 i)) = (idD s45) x0 from by (rw [copyTo_all (by omega)]; rfl)))

def S_laws_toGraph : Sum := { fid := 31, dom := [s47], cod := [s51], dp := true, fz := false, pre := fun x => (pTo s47) x.1, g := fun x => (((idD s47) x.1), ()) }
def S_laws_toGraph_tab : List (Nat × Sum) := [(101, S_laws_toEdgeS)]
theorem S_laws_toGraph_ok : FnOK Try.prog 31 S_laws_toGraph := by
  refine at_enter 12 (fun x => ⟨[(0, aG [cI x.1.1, .ro s171 x.1.2])], []⟩) Try.func31 rfl (by kernel_rfl) (fun x => rfl) ?_
  rintro w0 Z0 ⟨x0, u⟩ a w
  revert x0
  intro (x0 : T47) hpre hlens h
  replace h : At w0 Z0 [] 12 ⟨[(0, aG [cI x0.1, .ro s171 x0.2])], []⟩ a w := h
  replace hpre : (pTo s47) x0 := hpre
  have hl1 : List.length x0.2 ≤ 9223372036854775807 := hlens.1.2.1
  have hT : TabOK Try.prog S_laws_toGraph_tab := (.cons S_laws_toEdgeS_ok .nil)
  have hp : Sh.sz s47 x0 ≤ 1048576 := hpre
  have hsz : Sh.sz s47 x0 = (0 + (Sh.sz s45 x0.2)) := rfl
  refine wp_seq ?_
  refine at_regq (T := S_laws_toGraph_tab) [{ ids := [1] }, { ids := [2] }] { ts := [1, 2], os := [1, 2] } [] gamOK hT h (by kernel_rfl) trivial ?_
  intro a w h
  refine then_normal ?_
  refine wp_seq ?_
  refine at_regq (T := S_laws_toGraph_tab) [{ ids := [3] }] { ts := [1, 2, 3], os := [1, 2, 3] } [] gamOK hT h (by kernel_rfl) trivial ?_
  intro a w h
  refine then_normal ?_
  refine wp_seq ?_
  refine at_regq (T := S_laws_toGraph_tab) [] { ts := [1, 2, 3], os := [1, 2, 3] } [] gamOK hT h (by kernel_rfl) trivial ?_
  intro a w h
  refine then_normal ?_
  refine wp_seq ?_
  refine at_reg (T := S_laws_toGraph_tab) [{}, {}, { ids := [4] }] { ts := [2, 3], os := [2, 3, 4] } ⟨[(2, aP 2 0), (3, aP 3 0)], [(2, oX 51 [cI 0, cN]), (3, oX 51 [cI x0.1, .sl 4]), (4, oR s127 x0.2)]⟩ [(pTo s45) x0.2] gamOK hT h (by kernel_rfl) ⟨(by (show Sh.sz _ _ ≤ 1048576; omega)), trivial⟩ ?_
  intro a w h
  refine then_normal ?_
  refine wp_seq ?_
  refine at_regq (T := S_laws_toGraph_tab) [] { ts := [2], os := [2, 4] } [] gamOK hT h (by kernel_rfl) trivial ?_
  intro a w h
  refine then_normal ?_
  refine wp_ret ?_
  exact at_return (S := S_laws_toGraph) (x := (x0, ())) (x0, ()) [] h (by kernel_rfl) trivial (congrArg (fun z => (z, ())) (show (x0) = (idD s47) x0 from by rfl))


def addP (xs : List T114) (p : T114) : List T114 := if xs.length < 40 ∧ (xs.any fun e => Sh.eqB s114 p e) = false then xs ++ [p] else xs
def mergeP (a b : List T114) : List T114 := b.foldl addP a
theorem addP_yes {xs : List T114} {p : T114} (h : xs.length < 40) (h' : (xs.any fun e => Sh.eqB s114 p e) = false) : addP xs p = xs ++ [p] := if_pos ⟨h, h'⟩
theorem addP_has {xs : List T114} {p : T114} (h' : (xs.any fun e => Sh.eqB s114 p e) = true) : addP xs p = xs := if_neg (by rw [h']; simp)
theorem addP_full {xs : List T114} {p : T114} (h : ¬ xs.length < 40) : addP xs p = xs := if_neg (fun e => h e.1)
theorem foldPx_full {xs : List T114} (h : ¬ xs.length < 40) : ∀ ys : List T114, ys.foldl addP xs = xs
  | [] => rfl
  | y :: ys => by rw [List.foldl_cons, addP_full h]; exact foldPx_full h ys
theorem addP_len (xs : List T114) (p : T114) : (addP xs p).length ≤ xs.length + 1 := by unfold addP; split <;> simp
theorem foldPx_len : ∀ (ys xs : List T114), (ys.foldl addP xs).length ≤ xs.length + ys.length
  | [], xs => by simp
  | y :: ys, xs => by have := foldPx_len ys (addP xs y); have := addP_len xs y; simp only [List.foldl_cons, List.length_cons]; omega
theorem foldP_len (xs ys : List T114) (k : Nat) : (foldTo addP xs ys k).length ≤ xs.length + ys.length := by
  have h1 := foldPx_len (ys.take k) xs
  have h2 : (ys.take k).length ≤ ys.length := by simp; omega
  unfold foldTo; omega
theorem foldP_full {xs ys : List T114} {i : Nat} (h : ¬ (foldTo addP xs ys i).length < 40) : mergeP xs ys = foldTo addP xs ys i := by
  unfold mergeP
  have : ys.foldl addP xs = (ys.drop i).foldl addP (foldTo addP xs ys i) := by unfold foldTo; rw [← List.foldl_append, List.take_append_drop]
  rw [this, foldPx_full h]


section
variable {α β : Type}
theorem ctL_filter (c : α → Nat) (p : α → Bool) : ∀ xs : List α, ctL c (xs.filter p) ≤ ctL c xs
  | [] => Nat.le_refl _
  | x :: l => by
    have := ctL_filter c p l
    rw [List.filter_cons]
    split <;> simp only [ctL] <;> omega
theorem eqF_eqL {e : α → α → Bool} : ∀ {xs ys : List α}, eqF e xs ys = eqL e xs ys
  | [], [] => rfl
  | [], _ :: _ => rfl
  | _ :: _, [] => rfl
  | _ :: l, _ :: l' => by simp only [eqF, eqL, eqF_eqL (xs := l)]
/-- the indices of those that are wanted -/
def idxsTo (p : α → Bool) (z : α) (xs : List α) : Nat → List Int
  | 0 => []
  | i + 1 => bif p (xs.getD i z) then idxsTo p z xs i ++ [(i : Int)] else idxsTo p z xs i
theorem idxsTo_len {p : α → Bool} {z : α} {xs : List α} : ∀ {i : Nat}, (idxsTo p z xs i).length ≤ i
  | 0 => Nat.le_refl _
  | i + 1 => by
    have := idxsTo_len (p := p) (z := z) (xs := xs) (i := i)
    simp only [idxsTo]
    cases p (xs.getD i z) <;> simp <;> omega
theorem idxsTo_mem {p : α → Bool} {z : α} {xs : List α} {j : Nat} : ∀ {i : Nat}, ((j : Int) ∈ idxsTo p z xs i) ↔ (j < i ∧ p (xs.getD j z) = true)
  | 0 => by simp [idxsTo]
  | i + 1 => by
    have ih := idxsTo_mem (p := p) (z := z) (xs := xs) (j := j) (i := i)
    simp only [idxsTo]
    cases hp : p (xs.getD i z) with
    | true =>
      rw [cond_true, List.mem_append, ih, List.mem_singleton]
      constructor
      · rintro (h | h)
        · exact ⟨by omega, h.2⟩
        · have : j = i := by omega
          subst this; exact ⟨by omega, hp⟩
      · rintro ⟨h1, h2⟩
        by_cases e : j = i
        · right; rw [e]
        · left; exact ⟨by omega, h2⟩
    | false =>
      rw [cond_false, ih]
      constructor
      · rintro ⟨h1, h2⟩; exact ⟨by omega, h2⟩
      · rintro ⟨h1, h2⟩
        refine ⟨?_, h2⟩
        by_cases e : j = i
        · subst e; rw [hp] at h2; cases h2
        · omega
/-- those whose index is not among ed -/
def remTo (z : α) (xs : List α) (ed : List Int) : Nat → List α
  | 0 => []
  | i + 1 => bif ed.any (fun e => decide ((i : Int) = e)) then remTo z xs ed i else remTo z xs ed i ++ [xs.getD i z]
theorem remTo_len {z : α} {xs : List α} {ed : List Int} : ∀ {i : Nat}, (remTo z xs ed i).length ≤ i
  | 0 => Nat.le_refl _
  | i + 1 => by
    have := remTo_len (z := z) (xs := xs) (ed := ed) (i := i)
    simp only [remTo]
    cases ed.any (fun e => decide ((i : Int) = e)) <;> simp <;> omega
theorem remTo_idxs {p : α → Bool} {z : α} {xs : List α} : ∀ {i n : Nat}, i ≤ n → n ≤ xs.length → remTo z xs (idxsTo p z xs n) i = (xs.take i).filter (fun e => !p e)
  | 0, _, _, _ => by simp [remTo]
  | i + 1, n, h, hn => by
    have ih := remTo_idxs (p := p) (z := z) (xs := xs) (i := i) (n := n) (by omega) hn
    have hm : (idxsTo p z xs n).any (fun e => decide ((i : Int) = e)) = p (xs.getD i z) := by
      rw [Bool.eq_iff_iff, List.any_eq_true]
      constructor
      · rintro ⟨x, hx, he⟩
        have he := of_decide_eq_true he
        rw [← he] at hx
        exact (idxsTo_mem.1 hx).2
      · intro hp
        exact ⟨(i : Int), idxsTo_mem.2 ⟨by omega, hp⟩, by simp⟩
    simp only [remTo, hm, ih]
    cases hp : p (xs.getD i z) with
    | true => rw [cond_true, filter_snoc_f (z := z) (by omega) (by simp only [hp]; rfl)]
    | false => rw [cond_false, filter_snoc_t (z := z) (by omega) (by simp only [hp]; rfl)]
end



def relGens (x : T92) : List Int := x.2.map fun y => y.1
def dropGens (x : T92) (n : Int) : T92 := (x.1, x.2.filter fun y => decide (y.1 ≥ n))



def D_impl_RemoveEdges := (fun (g : T51) (ed : List Int) => (g.1, remTo (0, (0, 0)) g.2 ed g.2.length))
def S_impl_RemoveEdges : Sum := { fid := 104, dom := [s51, s34], cod := [s51], dp := true, fz := false, pre := fun x => (fun (x0 : T51) (x1 : (List Int)) => Sh.fit s51 x0 ∧ Sh.fit s34 x1) x.1 x.2.1, g := fun x => ((D_impl_RemoveEdges x.1 x.2.1), ()) }
def S_impl_RemoveEdges_tab : List (Nat × Sum) := [(156, S_slices_Contains_S_int_int_)]
theorem S_impl_RemoveEdges_ok : FnOK Try.prog 104 S_impl_RemoveEdges := by
  refine at_enter 31 (fun x => ⟨[(0, aG [cI x.1.1, .ro s127 x.1.2]), (1, aF (.int 3) x.2.1)], []⟩) Try.func104 rfl (by kernel_rfl) (fun x => rfl) ?_
  rintro w0 Z0 ⟨x0, x1, u⟩ a w
  revert x0 x1
  intro (x0 : T51) (x1 : (List Int)) hpre hlens h
  replace h : At w0 Z0 [] 31 ⟨[(0, aG [cI x0.1, .ro s127 x0.2]), (1, aF (.int 3) x1)], []⟩ a w := h
  replace hpre : (fun (x0 : T51) (x1 : (List Int)) => Sh.fit s51 x0 ∧ Sh.fit s34 x1) x0 x1 := hpre
  have hl1 : List.length x0.2 ≤ 9223372036854775807 := hlens.1.2.1
  have hl2 : List.length x1 ≤ 9223372036854775807 := hlens.2.1.1
  have hT : TabOK Try.prog S_impl_RemoveEdges_tab := (.cons S_slices_Contains_S_int_int__ok .nil)
  obtain ⟨hf0, hf1⟩ := hpre
  have hn0_1 : List.length x0.2 ≤ 1073741824 := hf0.2.1
  have hn1_2 : List.length x1 ≤ 1073741824 := hf1.1
  refine wp_seq ?_
  refine at_regq (T := S_impl_RemoveEdges_tab) [{ ids := [1] }, { ids := [2] }] { ts := [1, 2, 4], os := [1, 2] } [] gamOK hT h (by kernel_rfl) trivial ?_
  intro a w h
  refine then_normal ?_
  refine wp_seq ?_
  refine at_regq (T := S_impl_RemoveEdges_tab) [{}, {}, {}, { ids := [3] }] { ts := [1, 2, 4, 5], os := [1, 2, 3] } [] gamOK hT h (by kernel_rfl) trivial ?_
  intro a w h
  refine then_normal ?_
  refine wp_seq ?_
  refine wp_seq ?_
  refine at_regq (T := S_impl_RemoveEdges_tab) [] { ts := [1, 4, 5, 12, 13, 14], os := [2, 3] } [] gamOK hT h (by kernel_rfl) trivial ?_
  intro a w h
  refine then_normal ?_
  refine wp_block ?_
  replace h := at_out (σ' := ⟨[(1, aF (.int 3) x1), (4, aP 2 0), (5, aP 3 0), (12, aF s127 x0.2), (13, aI ((List.length x0.2 : Nat) : Int)), (14, aI 0)], [(2, oX 51 [cI 0, cN]), (3, oX 51 [cI x0.1, .sl 4]), (4, oR s127 ([] : List T127))]⟩) { mt := [⟨some 3, 1, 4, true, s127⟩], ts := [1, 4, 5, 12, 13, 14], os := [2, 3, 4] } h (by kernel_rfl)
  refine at_loop (fun i : Nat => (⟨[(1, aF (.int 3) x1), (4, aP 2 0), (5, aP 3 0), (12, aF s127 x0.2), (13, aI ((List.length x0.2 : Nat) : Int)), (14, aI ((i : Nat) : Int))], [(2, oX 51 [cI 0, cN]), (3, oX 51 [cI x0.1, .sl 4]), (4, oR s127 (remTo (0, (0, 0)) x0.2 x1 i))]⟩ : St)) (fun i => i ≤ List.length x0.2) (fun i => List.length x0.2 - i) (0) h (st_congr2 (fun (d0 : List T127) (d1 : Int) => (⟨[(1, aF (.int 3) x1), (4, aP 2 0), (5, aP 3 0), (12, aF s127 x0.2), (13, aI ((List.length x0.2 : Nat) : Int)), (14, aI d1)], [(2, oX 51 [cI 0, cN]), (3, oX 51 [cI x0.1, .sl 4]), (4, oR s127 d0)]⟩ : St)) (show (([] : List T127) : List T127) = (remTo (0, (0, 0)) x0.2 x1 (0)) from by first | rfl | (rfl)) (show (0 : Int) = (((0) : Nat) : Int) from by first | rfl | (rfl))) (by omega) ?_
  intro i a w hok0 h
  have hil := remTo_len (z := (0, (0, 0))) (xs := x0.2) (ed := x1) (i := i)
  refine wp_seq ?_
  refine at_reg (T := S_impl_RemoveEdges_tab) [] { ts := [1, 4, 5, 12, 13, 14, 15], os := [2, 3, 4] } ⟨[(1, aF (.int 3) x1), (4, aP 2 0), (5, aP 3 0), (12, aF s127 x0.2), (13, aI ((List.length x0.2 : Nat) : Int)), (14, aI ((i : Nat) : Int)), (15, aB (decide (((i : Nat) : Int) < ((List.length x0.2 : Nat) : Int))))], [(2, oX 51 [cI 0, cN]), (3, oX 51 [cI x0.1, .sl 4]), (4, oR s127 (remTo (0, (0, 0)) x0.2 x1 i))]⟩ [] gamOK hT h (by kernel_rfl) trivial ?_
  intro a w h
  refine then_normal ?_
  refine wp_seq ?_
  refine at_test (decide (((i : Nat) : Int) < ((List.length x0.2 : Nat) : Int))) h (by kernel_rfl) (fun h1 => ?_) (fun h1 => ?_)
  · replace h1 : ((i : Nat) : Int) < ((List.length x0.2 : Nat) : Int) := of_decide_eq_true h1
    refine wp_skip ?_
    refine then_normal ?_
    refine wp_seq ?_
    refine wp_block ?_
    refine wp_seq ?_
    refine at_regq (T := S_impl_RemoveEdges_tab) [{}, {}, {}, { ids := [5] }] { ts := [1, 4, 5, 6, 7, 12, 13, 14], os := [2, 3, 4, 5] } [(0 : Int) ≤ ((i : Nat) : Int) ∧ ((i : Nat) : Int) < ((List.length x0.2 : Nat) : Int)] gamOK hT h (by kernel_rfl) ⟨(by refine ⟨?_, ?_⟩ <;> (first | omega | (simp only [List.length_append, List.length_cons, List.length_nil, List.length_set, List.length_take, List.length_drop, List.length_replicate, List.length_map, Nat.min_def]; omega) | (simp; done) | (simp; omega) | done)), trivial⟩ ?_
    intro a w h
    refine then_normal ?_
    refine wp_seq ?_
    refine at_regq (T := S_impl_RemoveEdges_tab) [] { ts := [1, 4, 5, 7, 12, 13, 14, 22], os := [2, 3, 4, 5] } [True] gamOK hT h (by kernel_rfl) ⟨trivial, trivial⟩ ?_
    intro a w h
    refine then_normal ?_
    refine at_test (!(D_slices_Contains_S_int_int_ x1 ((i : Nat) : Int))) h (by kernel_rfl) (fun h2 => ?_) (fun h2 => ?_)
    · replace h2 : (D_slices_Contains_S_int_int_ x1 ((i : Nat) : Int)) = false := notT h2
      refine at_regq (T := S_impl_RemoveEdges_tab) [{}, {}, {}, { ids := [6] }, { ids := [7] }] { ts := [1, 4, 5, 12, 13, 14], os := [2, 3, 7] } [(List.length (remTo (0, (0, 0)) x0.2 x1 i) + List.length ([(x0.2.getD i (0, (0, 0)))])) * 24 ≤ 140737488355328] gamOK hT h (by kernel_rfl) ⟨(by first | omega | (simp only [List.length_append, List.length_cons, List.length_nil, List.length_set, List.length_take, List.length_drop, List.length_replicate, List.length_map, Nat.min_def]; omega) | (simp; done) | (simp; omega) | done), trivial⟩ ?_
      intro a w h
      refine in_normal ?_
      refine then_normal ?_
      refine at_reg (T := S_impl_RemoveEdges_tab) [{ nw := true }] { ts := [1, 4, 5, 12, 13, 14], os := [2, 3, 7] } ⟨[(1, aF (.int 3) x1), (4, aP 2 0), (5, aP 3 0), (12, aF s127 x0.2), (13, aI ((List.length x0.2 : Nat) : Int)), (14, aI (((i : Nat) : Int) + 1))], [(2, oX 51 [cI 0, cN]), (3, oX 51 [cI x0.1, .sl 7]), (7, oR s127 ((remTo (0, (0, 0)) x0.2 x1 i) ++ ([(x0.2.getD i (0, (0, 0)))])))]⟩ [I64 (((i : Nat) : Int) + 1)] gamOK hT h (by kernel_rfl) ⟨⟨by first | omega | (simp only [List.length_append, List.length_cons, List.length_nil, List.length_set, List.length_take, List.length_drop, List.length_replicate, List.length_map, Nat.min_def]; omega) | (simp; done) | (simp; omega) | done, by first | omega | (simp only [List.length_append, List.length_cons, List.length_nil, List.length_set, List.length_take, List.length_drop, List.length_replicate, List.length_map, Nat.min_def]; omega) | (simp; done) | (simp; omega) | done⟩, trivial⟩ ?_
      intro a w h
      replace h := at_out (σ' := ⟨[(1, aF (.int 3) x1), (4, aP 2 0), (5, aP 3 0), (12, aF s127 x0.2), (13, aI ((List.length x0.2 : Nat) : Int)), (14, aI (((i : Nat) : Int) + 1))], [(2, oX 51 [cI 0, cN]), (3, oX 51 [cI x0.1, .sl 4]), (4, oR s127 ((remTo (0, (0, 0)) x0.2 x1 i) ++ ([(x0.2.getD i (0, (0, 0)))])))]⟩) { ts := [1, 4, 5, 12, 13, 14], os := [2, 3, 7], rn := [(7, 4)] } h (by kernel_rfl)
      exact ⟨i + 1, at_eq h (st_congr2 (fun (d0 : List T127) (d1 : Int) => (⟨[(1, aF (.int 3) x1), (4, aP 2 0), (5, aP 3 0), (12, aF s127 x0.2), (13, aI ((List.length x0.2 : Nat) : Int)), (14, aI d1)], [(2, oX 51 [cI 0, cN]), (3, oX 51 [cI x0.1, .sl 4]), (4, oR s127 d0)]⟩ : St)) (show (((remTo (0, (0, 0)) x0.2 x1 i) ++ ([(x0.2.getD i (0, (0, 0)))])) : List T127) = (remTo (0, (0, 0)) x0.2 x1 (i + 1)) from by first | rfl | (first | (simp only [remTo]; rw [show (x1.any fun e => decide ((i : Int) = e)) = true from by assumption]; rfl) | (simp only [remTo]; rw [show (x1.any fun e => decide ((i : Int) = e)) = false from by assumption]; rfl))) (show (((i : Nat) : Int) + 1 : Int) = (((i + 1) : Nat) : Int) from by first | rfl | (omega))), (by omega), (by omega)⟩
    · replace h2 : (D_slices_Contains_S_int_int_ x1 ((i : Nat) : Int)) = true := notF h2
      refine wp_skip ?_
      refine in_normal ?_
      refine then_normal ?_
      refine at_regq (T := S_impl_RemoveEdges_tab) [{ nw := true }] { ts := [1, 4, 5, 12, 13, 14], os := [2, 3, 4] } [I64 (((i : Nat) : Int) + 1)] gamOK hT h (by kernel_rfl) ⟨⟨by first | omega | (simp only [List.length_append, List.length_cons, List.length_nil, List.length_set, List.length_take, List.length_drop, List.length_replicate, List.length_map, Nat.min_def]; omega) | (simp; done) | (simp; omega) | done, by first | omega | (simp only [List.length_append, List.length_cons, List.length_nil, List.length_set, List.length_take, List.length_drop, List.length_replicate, List.length_map, Nat.min_def]; omega) | (simp; done) | (simp; omega) | done⟩, trivial⟩ ?_
      intro a w h
      replace h := at_out (σ' := ⟨[(1, aF (.int 3) x1), (4, aP 2 0), (5, aP 3 0), (12, aF s127 x0.2), (13, aI ((List.length x0.2 : Nat) : Int)), (14, aI (((i : Nat) : Int) + 1))], [(2, oX 51 [cI 0, cN]), (3, oX 51 [cI x0.1, .sl 4]), (4, oR s127 (remTo (0, (0, 0)) x0.2 x1 i))]⟩) { ts := [1, 4, 5, 12, 13, 14], os := [2, 3, 4] } h (by kernel_rfl)
      exact ⟨i + 1, at_eq h (st_congr2 (fun (d0 : List T127) (d1 : Int) => (⟨[(1, aF (.int 3) x1), (4, aP 2 0), (5, aP 3 0), (12, aF s127 x0.2), (13, aI ((List.length x0.2 : Nat) : Int)), (14, aI d1)], [(2, oX 51 [cI 0, cN]), (3, oX 51 [cI x0.1, .sl 4]), (4, oR s127 d0)]⟩ : St)) (show ((remTo (0, (0, 0)) x0.2 x1 i) : List T127) = (remTo (0, (0, 0)) x0.2 x1 (i + 1)) from by first | rfl | (first | (simp only [remTo]; rw [show (x1.any fun e => decide ((i : Int) = e)) = true from by assumption]; rfl) | (simp only [remTo]; rw [show (x1.any fun e => decide ((i : Int) = e)) = false from by assumption]; rfl))) (show (((i : Nat) : Int) + 1 : Int) = (((i + 1) : Nat) : Int) from by first | rfl | (omega))), (by omega), (by omega)⟩
  · replace h1 : ¬ (((i : Nat) : Int) < ((List.length x0.2 : Nat) : Int)) := of_decide_eq_false h1
    refine wp_exit ?_
    refine then_exit ?_
    refine then_exit ?_
    refine in_hit ?_
    refine then_normal ?_
    refine wp_seq ?_
    refine at_regq (T := S_impl_RemoveEdges_tab) [] { ts := [4], os := [2, 4] } [] gamOK hT h (by kernel_rfl) trivial ?_
    intro a w h
    refine then_normal ?_
    refine wp_ret ?_
    exact at_return (S := S_impl_RemoveEdges) (x := (x0, x1, ())) ((x0.1, (remTo (0, (0, 0)) x0.2 x1 i)), ()) [] h (by kernel_rfl) trivial (congrArg (fun z => (z, ())) (show ((x0.1, (remTo (0, (0, 0)) x0.2 x1 i))) = D_impl_RemoveEdges x0 x1 from by unfold D_impl_RemoveEdges; (rw [show x0.2.length = i by omega])))

def D_impl_WithoutHostile_1 (x0 : Int) (x1 : (List Int)) : Bool := (if (inR x0 0 (((List.length x1 : Nat) : Int) - 1)) = true then !decide ((x1.getD ((x0).toNat) 0) = 0) else false)
def S_impl_WithoutHostile_1 : Sum := { fid := 102, dom := [(.int 3), (.pt s34)], cod := [(.bool 4)], dp := true, fz := false, pre := fun x => (fun (x0 : Int) (x1 : (List Int)) => Sh.fit (.pt s34) x1) x.1 x.2.1, g := fun x => ((D_impl_WithoutHostile_1 x.1 x.2.1), ()) }
def S_impl_WithoutHostile_1_tab : List (Nat × Sum) := [(103, S_impl_InRange)]
theorem S_impl_WithoutHostile_1_ok : FnOK Try.prog 102 S_impl_WithoutHostile_1 := by
  refine at_enter 16 (fun x => ⟨[(0, aI x.1), (1, aR s34 x.2.1 0)], []⟩) Try.func102 rfl (by kernel_rfl) (fun x => rfl) ?_
  rintro w0 Z0 ⟨x0, x1, u⟩ a w
  revert x0 x1
  intro (x0 : Int) (x1 : (List Int)) hpre hlens h
  replace h : At w0 Z0 [] 16 ⟨[(0, aI x0), (1, aR s34 x1 0)], []⟩ a w := h
  replace hpre : (fun (x0 : Int) (x1 : (List Int)) => Sh.fit (.pt s34) x1) x0 x1 := hpre
  have hl1 : List.length x1 ≤ 9223372036854775807 := hlens.2.1.1
  have hT : TabOK Try.prog S_impl_WithoutHostile_1_tab := (.cons S_impl_InRange_ok .nil)
  have hf1 := hpre
  have hn1_1 : List.length x1 ≤ 1073741824 := hf1.1
  refine wp_seq ?_
  refine at_regq (T := S_impl_WithoutHostile_1_tab) [] { ts := [0, 1, 3], os := [] } [] gamOK hT h (by kernel_rfl) trivial ?_
  intro a w h
  refine then_normal ?_
  refine wp_seq ?_
  rcases Bool.eq_false_or_eq_true ((inR x0 0 (((List.length x1 : Nat) : Int) - 1))) with h1 | h1
  · skip
    have hvh1 := inR_t h1
    refine at_regq (T := S_impl_WithoutHostile_1_tab) [{}, {}, {}, { nw := true }, { hint := some (aB true) }] { ts := [3], os := [] } [I64 (((List.length x1 : Nat) : Int) - 1), True, (AV.p (.c (.v (.bool ((inR x0 0 (((List.length x1 : Nat) : Int) - 1)))))) = AV.p (.c (.v (.bool true)))), (0 : Int) ≤ x0 ∧ x0 < ((List.length x1 : Nat) : Int)] gamOK hT h (by kernel_rfl) ⟨⟨by first | omega | (simp only [List.length_append, List.length_cons, List.length_nil, List.length_set, List.length_take, List.length_drop, List.length_replicate, List.length_map, Nat.min_def]; omega) | (simp; done) | (simp; omega) | done, by first | omega | (simp only [List.length_append, List.length_cons, List.length_nil, List.length_set, List.length_take, List.length_drop, List.length_replicate, List.length_map, Nat.min_def]; omega) | (simp; done) | (simp; omega) | done⟩, trivial, hint_bool (h1), (by refine ⟨?_, ?_⟩ <;> (first | omega | (simp only [List.length_append, List.length_cons, List.length_nil, List.length_set, List.length_take, List.length_drop, List.length_replicate, List.length_map, Nat.min_def]; omega) | (simp; done) | (simp; omega) | done)), trivial⟩ ?_
    intro a w h
    refine then_normal ?_
    refine wp_ret ?_
    exact at_return (S := S_impl_WithoutHostile_1) (x := (x0, x1, ())) (!decide ((x1.getD ((x0).toNat) 0) = 0), ()) [] h (by kernel_rfl) trivial (congrArg (fun z => (z, ())) (show (!decide ((x1.getD ((x0).toNat) 0) = 0)) = D_impl_WithoutHostile_1 x0 x1 from by first | rfl | (unfold D_impl_WithoutHostile_1; rw [if_pos h1])))
  · skip
    have hvh1 := inR_f h1
    refine at_regq (T := S_impl_WithoutHostile_1_tab) [{}, {}, {}, { nw := true }, { hint := some (aB false) }] { ts := [3], os := [] } [I64 (((List.length x1 : Nat) : Int) - 1), True, (AV.p (.c (.v (.bool ((inR x0 0 (((List.length x1 : Nat) : Int) - 1)))))) = AV.p (.c (.v (.bool false))))] gamOK hT h (by kernel_rfl) ⟨⟨by first | omega | (simp only [List.length_append, List.length_cons, List.length_nil, List.length_set, List.length_take, List.length_drop, List.length_replicate, List.length_map, Nat.min_def]; omega) | (simp; done) | (simp; omega) | done, by first | omega | (simp only [List.length_append, List.length_cons, List.length_nil, List.length_set, List.length_take, List.length_drop, List.length_replicate, List.length_map, Nat.min_def]; omega) | (simp; done) | (simp; omega) | done⟩, trivial, hint_bool (h1), trivial⟩ ?_
    intro a w h
    refine then_normal ?_
    refine wp_ret ?_
    exact at_return (S := S_impl_WithoutHostile_1) (x := (x0, x1, ())) (false, ()) [] h (by kernel_rfl) trivial (congrArg (fun z => (z, ())) (show (false) = D_impl_WithoutHostile_1 x0 x1 from by first | rfl | (unfold D_impl_WithoutHostile_1; rw [if_neg (neT h1)])))

def D_impl_WithoutHostile_2 (x0 : T127) (x1 : (List Int)) : Bool := (if (D_impl_WithoutHostile_1 x0.1 x1) = true then true else (D_impl_WithoutHostile_1 x0.2.1 x1))
def S_impl_WithoutHostile_2 : Sum := { fid := 106, dom := [s127, (.pt (.fn 102 (.pt s34)))], cod := [(.bool 4)], dp := true, fz := false, pre := fun x => (fun (x0 : T127) (x1 : (List Int)) => Sh.fit (.pt (.fn 102 (.pt s34))) x1) x.1 x.2.1, g := fun x => ((D_impl_WithoutHostile_2 x.1 x.2.1), ()) }
def S_impl_WithoutHostile_2_tab : List (Nat × Sum) := [(102, S_impl_WithoutHostile_1)]
theorem S_impl_WithoutHostile_2_ok : FnOK Try.prog 106 S_impl_WithoutHostile_2 := by
  refine at_enter 14 (fun x => ⟨[(0, aG [cI x.1.1, cI x.1.2.1, cI x.1.2.2]), (1, aR (.fn 102 (.pt s34)) x.2.1 0)], []⟩) Try.func106 rfl (by kernel_rfl) (fun x => rfl) ?_
  rintro w0 Z0 ⟨x0, x1, u⟩ a w
  revert x0 x1
  intro (x0 : T127) (x1 : (List Int)) hpre hlens h
  replace h : At w0 Z0 [] 14 ⟨[(0, aG [cI x0.1, cI x0.2.1, cI x0.2.2]), (1, aR (.fn 102 (.pt s34)) x1 0)], []⟩ a w := h
  replace hpre : (fun (x0 : T127) (x1 : (List Int)) => Sh.fit (.pt (.fn 102 (.pt s34))) x1) x0 x1 := hpre
  have hl1 : List.length x1 ≤ 9223372036854775807 := hlens.2.1.1
  have hT : TabOK Try.prog S_impl_WithoutHostile_2_tab := (.cons S_impl_WithoutHostile_1_ok .nil)
  have hf1 := hpre
  have hn1_1 : List.length x1 ≤ 1073741824 := hf1.1
  refine wp_seq ?_
  refine at_regq (T := S_impl_WithoutHostile_2_tab) [{ ids := [1] }] { ts := [1, 2, 3], os := [1] } [] gamOK hT h (by kernel_rfl) trivial ?_
  intro a w h
  refine then_normal ?_
  refine wp_seq ?_
  rcases Bool.eq_false_or_eq_true ((D_impl_WithoutHostile_1 x0.1 x1)) with h1 | h1
  · skip
    refine at_regq (T := S_impl_WithoutHostile_2_tab) [{}, {}, {}, { hint := some (aB true) }] { ts := [3], os := [] } [(fun (x0 : Int) (x1 : (List Int)) => Sh.fit (.pt s34) x1) x0.1 x1, (AV.p (.c (.v (.bool ((D_impl_WithoutHostile_1 x0.1 x1))))) = AV.p (.c (.v (.bool true))))] gamOK hT h (by kernel_rfl) ⟨(by exact hf1), hint_bool (h1), trivial⟩ ?_
    intro a w h
    refine then_normal ?_
    refine wp_ret ?_
    exact at_return (S := S_impl_WithoutHostile_2) (x := (x0, x1, ())) (true, ()) [] h (by kernel_rfl) trivial (congrArg (fun z => (z, ())) (show (true) = D_impl_WithoutHostile_2 x0 x1 from by first | rfl | (unfold D_impl_WithoutHostile_2; rw [if_pos h1])))
  · skip
    refine at_regq (T := S_impl_WithoutHostile_2_tab) [{}, {}, {}, { hint := some (aB false) }] { ts := [3], os := [] } [(fun (x0 : Int) (x1 : (List Int)) => Sh.fit (.pt s34) x1) x0.1 x1, (AV.p (.c (.v (.bool ((D_impl_WithoutHostile_1 x0.1 x1))))) = AV.p (.c (.v (.bool false)))), (fun (x0 : Int) (x1 : (List Int)) => Sh.fit (.pt s34) x1) x0.2.1 x1] gamOK hT h (by kernel_rfl) ⟨(by exact hf1), hint_bool (h1), (by exact hf1), trivial⟩ ?_
    intro a w h
    refine then_normal ?_
    refine wp_ret ?_
    exact at_return (S := S_impl_WithoutHostile_2) (x := (x0, x1, ())) ((D_impl_WithoutHostile_1 x0.2.1 x1), ()) [] h (by kernel_rfl) trivial (congrArg (fun z => (z, ())) (show ((D_impl_WithoutHostile_1 x0.2.1 x1)) = D_impl_WithoutHostile_2 x0 x1 from by first | rfl | (unfold D_impl_WithoutHostile_2; rw [if_neg (neT h1)])))

def D__impl_Graph_edges_WithoutHostile_2 := (fun (g : T51) (cap : List Int) => idxsTo (fun e => D_impl_WithoutHostile_2 e cap) (0, (0, 0)) g.2 g.2.length)
def S__impl_Graph_edges_WithoutHostile_2 : Sum := { fid := 105, dom := [s51, (.fn 106 (.pt (.fn 102 (.pt s34))))], cod := [s34], dp := true, fz := false, pre := fun x => (fun (x0 : T51) (x1 : (List Int)) => Sh.fit s51 x0 ∧ Sh.fit (.fn 106 (.pt (.fn 102 (.pt s34)))) x1) x.1 x.2.1, g := fun x => ((D__impl_Graph_edges_WithoutHostile_2 x.1 x.2.1), ()) }
def S__impl_Graph_edges_WithoutHostile_2_tab : List (Nat × Sum) := [(106, S_impl_WithoutHostile_2)]
theorem S__impl_Graph_edges_WithoutHostile_2_ok : FnOK Try.prog 105 S__impl_Graph_edges_WithoutHostile_2 := by
  refine at_enter 25 (fun x => ⟨[(0, aG [cI x.1.1, .ro s127 x.1.2]), (1, .p (.c (.cl 106 (.ccons (.pr (.fn 102 (.pt s34)) x.2.1 0) .cnil))))], []⟩) Try.func105 rfl (by kernel_rfl) (fun x => rfl) ?_
  rintro w0 Z0 ⟨x0, x1, u⟩ a w
  revert x0 x1
  intro (x0 : T51) (x1 : (List Int)) hpre hlens h
  replace h : At w0 Z0 [] 25 ⟨[(0, aG [cI x0.1, .ro s127 x0.2]), (1, .p (.c (.cl 106 (.ccons (.pr (.fn 102 (.pt s34)) x1 0) .cnil))))], []⟩ a w := h
  replace hpre : (fun (x0 : T51) (x1 : (List Int)) => Sh.fit s51 x0 ∧ Sh.fit (.fn 106 (.pt (.fn 102 (.pt s34)))) x1) x0 x1 := hpre
  have hl1 : List.length x0.2 ≤ 9223372036854775807 := hlens.1.2.1
  have hl2 : List.length x1 ≤ 9223372036854775807 := hlens.2.1.1
  have hT : TabOK Try.prog S__impl_Graph_edges_WithoutHostile_2_tab := (.cons S_impl_WithoutHostile_2_ok .nil)
  obtain ⟨hf0, hf1⟩ := hpre
  have hn0_1 : List.length x0.2 ≤ 1073741824 := hf0.2.1
  have hn1_2 : List.length x1 ≤ 1073741824 := hf1.1
  refine wp_seq ?_
  refine at_regq (T := S__impl_Graph_edges_WithoutHostile_2_tab) [{ ids := [1] }] { ts := [1, 2, 4], os := [1] } [] gamOK hT h (by kernel_rfl) trivial ?_
  intro a w h
  refine then_normal ?_
  refine wp_seq ?_
  refine at_regq (T := S__impl_Graph_edges_WithoutHostile_2_tab) [] { ts := [1, 2, 4, 5], os := [1] } [] gamOK hT h (by kernel_rfl) trivial ?_
  intro a w h
  refine then_normal ?_
  refine wp_seq ?_
  refine wp_seq ?_
  refine at_regq (T := S__impl_Graph_edges_WithoutHostile_2_tab) [] { ts := [1, 4, 5, 9, 10, 11], os := [] } [] gamOK hT h (by kernel_rfl) trivial ?_
  intro a w h
  refine then_normal ?_
  refine wp_block ?_
  replace h := at_out (σ' := ⟨[(1, .p (.c (.cl 106 (.ccons (.pr (.fn 102 (.pt s34)) x1 0) .cnil)))), (4, .p (.c (cN))), (5, aS 2), (9, aF s127 x0.2), (10, aI ((List.length x0.2 : Nat) : Int)), (11, aI 0)], [(2, oR (.int 3) ([] : List Int))]⟩) { mt := [⟨none, 5, 2, true, (.int 3)⟩], ts := [1, 4, 5, 9, 10, 11], os := [2] } h (by kernel_rfl)
  refine at_loop (fun i : Nat => (⟨[(1, .p (.c (.cl 106 (.ccons (.pr (.fn 102 (.pt s34)) x1 0) .cnil)))), (4, .p (.c (cN))), (5, aS 2), (9, aF s127 x0.2), (10, aI ((List.length x0.2 : Nat) : Int)), (11, aI ((i : Nat) : Int))], [(2, oR (.int 3) (idxsTo (fun e => D_impl_WithoutHostile_2 e x1) (0, (0, 0)) x0.2 i))]⟩ : St)) (fun i => i ≤ List.length x0.2) (fun i => List.length x0.2 - i) (0) h (st_congr2 (fun (d0 : List Int) (d1 : Int) => (⟨[(1, .p (.c (.cl 106 (.ccons (.pr (.fn 102 (.pt s34)) x1 0) .cnil)))), (4, .p (.c (cN))), (5, aS 2), (9, aF s127 x0.2), (10, aI ((List.length x0.2 : Nat) : Int)), (11, aI d1)], [(2, oR (.int 3) d0)]⟩ : St)) (show (([] : List Int) : List Int) = (idxsTo (fun e => D_impl_WithoutHostile_2 e x1) (0, (0, 0)) x0.2 (0)) from by first | rfl | (rfl)) (show (0 : Int) = (((0) : Nat) : Int) from by first | rfl | (rfl))) (by omega) ?_
  intro i a w hok0 h
  have hil := idxsTo_len (p := fun e => D_impl_WithoutHostile_2 e x1) (z := (0, (0, 0))) (xs := x0.2) (i := i)
  refine wp_seq ?_
  refine at_reg (T := S__impl_Graph_edges_WithoutHostile_2_tab) [] { ts := [1, 4, 5, 9, 10, 11, 12], os := [2] } ⟨[(1, .p (.c (.cl 106 (.ccons (.pr (.fn 102 (.pt s34)) x1 0) .cnil)))), (4, .p (.c (cN))), (5, aS 2), (9, aF s127 x0.2), (10, aI ((List.length x0.2 : Nat) : Int)), (11, aI ((i : Nat) : Int)), (12, aB (decide (((i : Nat) : Int) < ((List.length x0.2 : Nat) : Int))))], [(2, oR (.int 3) (idxsTo (fun e => D_impl_WithoutHostile_2 e x1) (0, (0, 0)) x0.2 i))]⟩ [] gamOK hT h (by kernel_rfl) trivial ?_
  intro a w h
  refine then_normal ?_
  refine wp_seq ?_
  refine at_test (decide (((i : Nat) : Int) < ((List.length x0.2 : Nat) : Int))) h (by kernel_rfl) (fun h1 => ?_) (fun h1 => ?_)
  · replace h1 : ((i : Nat) : Int) < ((List.length x0.2 : Nat) : Int) := of_decide_eq_true h1
    refine wp_skip ?_
    refine then_normal ?_
    refine wp_seq ?_
    refine wp_block ?_
    refine wp_seq ?_
    refine at_regq (T := S__impl_Graph_edges_WithoutHostile_2_tab) [{}, {}, {}, { ids := [3] }] { ts := [1, 4, 5, 6, 7, 9, 10, 11], os := [2, 3] } [(0 : Int) ≤ ((i : Nat) : Int) ∧ ((i : Nat) : Int) < ((List.length x0.2 : Nat) : Int)] gamOK hT h (by kernel_rfl) ⟨(by refine ⟨?_, ?_⟩ <;> (first | omega | (simp only [List.length_append, List.length_cons, List.length_nil, List.length_set, List.length_take, List.length_drop, List.length_replicate, List.length_map, Nat.min_def]; omega) | (simp; done) | (simp; omega) | done)), trivial⟩ ?_
    intro a w h
    refine then_normal ?_
    refine wp_seq ?_
    refine at_regq (T := S__impl_Graph_edges_WithoutHostile_2_tab) [] { ts := [1, 4, 5, 6, 9, 10, 11, 18], os := [2] } [(fun (x0 : T127) (x1 : (List Int)) => Sh.fit (.pt (.fn 102 (.pt s34))) x1) (x0.2.getD i (0, (0, 0))) x1] gamOK hT h (by kernel_rfl) ⟨(by exact hf1), trivial⟩ ?_
    intro a w h
    refine then_normal ?_
    refine at_test ((D_impl_WithoutHostile_2 (x0.2.getD i (0, (0, 0))) x1)) h (by kernel_rfl) (fun h2 => ?_) (fun h2 => ?_)
    · refine at_regq (T := S__impl_Graph_edges_WithoutHostile_2_tab) [{}, {}, { ids := [4] }, { ids := [5] }] { ts := [1, 4, 5, 9, 10, 11], os := [5] } [(List.length (idxsTo (fun e => D_impl_WithoutHostile_2 e x1) (0, (0, 0)) x0.2 i) + List.length ([((i : Nat) : Int)])) * 8 ≤ 140737488355328] gamOK hT h (by kernel_rfl) ⟨(by first | omega | (simp only [List.length_append, List.length_cons, List.length_nil, List.length_set, List.length_take, List.length_drop, List.length_replicate, List.length_map, Nat.min_def]; omega) | (simp; done) | (simp; omega) | done), trivial⟩ ?_
      intro a w h
      refine in_normal ?_
      refine then_normal ?_
      refine at_reg (T := S__impl_Graph_edges_WithoutHostile_2_tab) [{ nw := true }] { ts := [1, 4, 5, 9, 10, 11], os := [5] } ⟨[(1, .p (.c (.cl 106 (.ccons (.pr (.fn 102 (.pt s34)) x1 0) .cnil)))), (4, .p (.c (cN))), (5, aS 5), (9, aF s127 x0.2), (10, aI ((List.length x0.2 : Nat) : Int)), (11, aI (((i : Nat) : Int) + 1))], [(5, oR (.int 3) ((idxsTo (fun e => D_impl_WithoutHostile_2 e x1) (0, (0, 0)) x0.2 i) ++ ([((i : Nat) : Int)])))]⟩ [I64 (((i : Nat) : Int) + 1)] gamOK hT h (by kernel_rfl) ⟨⟨by first | omega | (simp only [List.length_append, List.length_cons, List.length_nil, List.length_set, List.length_take, List.length_drop, List.length_replicate, List.length_map, Nat.min_def]; omega) | (simp; done) | (simp; omega) | done, by first | omega | (simp only [List.length_append, List.length_cons, List.length_nil, List.length_set, List.length_take, List.length_drop, List.length_replicate, List.length_map, Nat.min_def]; omega) | (simp; done) | (simp; omega) | done⟩, trivial⟩ ?_
      intro a w h
      replace h := at_out (σ' := ⟨[(1, .p (.c (.cl 106 (.ccons (.pr (.fn 102 (.pt s34)) x1 0) .cnil)))), (4, .p (.c (cN))), (5, aS 2), (9, aF s127 x0.2), (10, aI ((List.length x0.2 : Nat) : Int)), (11, aI (((i : Nat) : Int) + 1))], [(2, oR (.int 3) ((idxsTo (fun e => D_impl_WithoutHostile_2 e x1) (0, (0, 0)) x0.2 i) ++ ([((i : Nat) : Int)])))]⟩) { ts := [1, 4, 5, 9, 10, 11], os := [5], rn := [(5, 2)] } h (by kernel_rfl)
      exact ⟨i + 1, at_eq h (st_congr2 (fun (d0 : List Int) (d1 : Int) => (⟨[(1, .p (.c (.cl 106 (.ccons (.pr (.fn 102 (.pt s34)) x1 0) .cnil)))), (4, .p (.c (cN))), (5, aS 2), (9, aF s127 x0.2), (10, aI ((List.length x0.2 : Nat) : Int)), (11, aI d1)], [(2, oR (.int 3) d0)]⟩ : St)) (show (((idxsTo (fun e => D_impl_WithoutHostile_2 e x1) (0, (0, 0)) x0.2 i) ++ ([((i : Nat) : Int)])) : List Int) = (idxsTo (fun e => D_impl_WithoutHostile_2 e x1) (0, (0, 0)) x0.2 (i + 1)) from by first | rfl | (first | (simp only [idxsTo]; rw [show (D_impl_WithoutHostile_2 (x0.2.getD i (0, (0, 0))) x1) = true from by assumption]; rfl) | (simp only [idxsTo]; rw [show (D_impl_WithoutHostile_2 (x0.2.getD i (0, (0, 0))) x1) = false from by assumption]; rfl))) (show (((i : Nat) : Int) + 1 : Int) = (((i + 1) : Nat) : Int) from by first | rfl | (omega))), (by omega), (by omega)⟩
    · refine wp_skip ?_
      refine in_normal ?_
      refine then_normal ?_
      refine at_regq (T := S__impl_Graph_edges_WithoutHostile_2_tab) [{ nw := true }] { ts := [1, 4, 5, 9, 10, 11], os := [2] } [I64 (((i : Nat) : Int) + 1)] gamOK hT h (by kernel_rfl) ⟨⟨by first | omega | (simp only [List.length_append, List.length_cons, List.length_nil, List.length_set, List.length_take, List.length_drop, List.length_replicate, List.length_map, Nat.min_def]; omega) | (simp; done) | (simp; omega) | done, by first | omega | (simp only [List.length_append, List.length_cons, List.length_nil, List.length_set, List.length_take, List.length_drop, List.length_replicate, List.length_map, Nat.min_def]; omega) | (simp; done) | (simp; omega) | done⟩, trivial⟩ ?_
      intro a w h
      replace h := at_out (σ' := ⟨[(1, .p (.c (.cl 106 (.ccons (.pr (.fn 102 (.pt s34)) x1 0) .cnil)))), (4, .p (.c (cN))), (5, aS 2), (9, aF s127 x0.2), (10, aI ((List.length x0.2 : Nat) : Int)), (11, aI (((i : Nat) : Int) + 1))], [(2, oR (.int 3) (idxsTo (fun e => D_impl_WithoutHostile_2 e x1) (0, (0, 0)) x0.2 i))]⟩) { ts := [1, 4, 5, 9, 10, 11], os := [2] } h (by kernel_rfl)
      exact ⟨i + 1, at_eq h (st_congr2 (fun (d0 : List Int) (d1 : Int) => (⟨[(1, .p (.c (.cl 106 (.ccons (.pr (.fn 102 (.pt s34)) x1 0) .cnil)))), (4, .p (.c (cN))), (5, aS 2), (9, aF s127 x0.2), (10, aI ((List.length x0.2 : Nat) : Int)), (11, aI d1)], [(2, oR (.int 3) d0)]⟩ : St)) (show ((idxsTo (fun e => D_impl_WithoutHostile_2 e x1) (0, (0, 0)) x0.2 i) : List Int) = (idxsTo (fun e => D_impl_WithoutHostile_2 e x1) (0, (0, 0)) x0.2 (i + 1)) from by first | rfl | (first | (simp only [idxsTo]; rw [show (D_impl_WithoutHostile_2 (x0.2.getD i (0, (0, 0))) x1) = true from by assumption]; rfl) | (simp only [idxsTo]; rw [show (D_impl_WithoutHostile_2 (x0.2.getD i (0, (0, 0))) x1) = false from by assumption]; rfl))) (show (((i : Nat) : Int) + 1 : Int) = (((i + 1) : Nat) : Int) from by first | rfl | (omega))), (by omega), (by omega)⟩
  · replace h1 : ¬ (((i : Nat) : Int) < ((List.length x0.2 : Nat) : Int)) := of_decide_eq_false h1
    refine wp_exit ?_
    refine then_exit ?_
    refine then_exit ?_
    refine in_hit ?_
    refine then_normal ?_
    refine wp_seq ?_
    refine at_regq (T := S__impl_Graph_edges_WithoutHostile_2_tab) [] { ts := [4], os := [2] } [] gamOK hT h (by kernel_rfl) trivial ?_
    intro a w h
    refine then_normal ?_
    refine wp_ret ?_
    exact at_return (S := S__impl_Graph_edges_WithoutHostile_2) (x := (x0, x1, ())) ((idxsTo (fun e => D_impl_WithoutHostile_2 e x1) (0, (0, 0)) x0.2 i), ()) [] h (by kernel_rfl) trivial (congrArg (fun z => (z, ())) (show ((idxsTo (fun e => D_impl_WithoutHostile_2 e x1) (0, (0, 0)) x0.2 i)) = D__impl_Graph_edges_WithoutHostile_2 x0 x1 from by unfold D__impl_Graph_edges_WithoutHostile_2; (rw [show x0.2.length = i by omega])))
theorem fit_edges_WithoutHostile_2 {x : T51} {y : List Int} (h : Sh.fit s51 x) : Sh.fit s34 (D__impl_Graph_edges_WithoutHostile_2 x y) := Sh.fit_len rfl (Nat.le_trans idxsTo_len h.2.1)

def D_impl_WithoutHostile (x0 : T51) (x1 : (List Int)) : T51 := (D_impl_RemoveEdges x0 (D__impl_Graph_edges_WithoutHostile_2 x0 x1))
def S_impl_WithoutHostile : Sum := { fid := 33, dom := [s51, s34], cod := [s51], dp := true, fz := false, pre := fun x => (fun (x0 : T51) (x1 : (List Int)) => Sh.fit s51 x0 ∧ Sh.fit s34 x1) x.1 x.2.1, g := fun x => ((D_impl_WithoutHostile x.1 x.2.1), ()) }
def S_impl_WithoutHostile_tab : List (Nat × Sum) := [(100007, S__impl_Graph_edges_WithoutHostile_2), (104, S_impl_RemoveEdges)]
theorem S_impl_WithoutHostile_ok : FnOK Try.prog 33 S_impl_WithoutHostile := by
  refine at_enter 12 (fun x => ⟨[(0, aG [cI x.1.1, .ro s127 x.1.2]), (1, aF (.int 3) x.2.1)], []⟩) Try.func33 rfl (by kernel_rfl) (fun x => rfl) ?_
  rintro w0 Z0 ⟨x0, x1, u⟩ a w
  revert x0 x1
  intro (x0 : T51) (x1 : (List Int)) hpre hlens h
  replace h : At w0 Z0 [] 12 ⟨[(0, aG [cI x0.1, .ro s127 x0.2]), (1, aF (.int 3) x1)], []⟩ a w := h
  replace hpre : (fun (x0 : T51) (x1 : (List Int)) => Sh.fit s51 x0 ∧ Sh.fit s34 x1) x0 x1 := hpre
  have hl1 : List.length x0.2 ≤ 9223372036854775807 := hlens.1.2.1
  have hl2 : List.length x1 ≤ 9223372036854775807 := hlens.2.1.1
  have hT : TabOK Try.prog S_impl_WithoutHostile_tab := (.cons S__impl_Graph_edges_WithoutHostile_2_ok (.cons S_impl_RemoveEdges_ok .nil))
  obtain ⟨hf0, hf1⟩ := hpre
  have hn0_1 : List.length x0.2 ≤ 1073741824 := hf0.2.1
  have hn1_2 : List.length x1 ≤ 1073741824 := hf1.1
  refine wp_seq ?_
  refine at_regq (T := S_impl_WithoutHostile_tab) [{ ids := [1] }, { ids := [2] }, { ids := [3] }] { ts := [2, 3, 4], os := [1, 2, 3] } [] gamOK hT h (by kernel_rfl) trivial ?_
  intro a w h
  refine then_normal ?_
  refine wp_seq ?_
  refine at_regq (T := S_impl_WithoutHostile_tab) [{}, { ids := [4] }] { ts := [2, 4, 5], os := [1, 2, 3, 4] } [] gamOK hT h (by kernel_rfl) trivial ?_
  intro a w h
  refine then_normal ?_
  refine wp_seq ?_
  refine at_anyq (T := S_impl_WithoutHostile_tab) [{}, {}, {}, { ids := [5], key := some 100007 }, { ids := [6] }, {}] { ts := [4], os := [3, 6] } [(fun (x0 : T51) (x1 : (List Int)) => Sh.fit s51 x0 ∧ Sh.fit (.fn 106 (.pt (.fn 102 (.pt s34)))) x1) x0 x1, (fun (x0 : T51) (x1 : (List Int)) => Sh.fit s51 x0 ∧ Sh.fit s34 x1) x0 (D__impl_Graph_edges_WithoutHostile_2 x0 x1)] gamOK hT mixed h (by kernel_rfl) ⟨(by exact ⟨hf0, hf1⟩), (by exact ⟨hf0, (fit_edges_WithoutHostile_2 hf0)⟩), trivial⟩ ?_
  intro a w h
  refine then_normal ?_
  refine wp_ret ?_
  exact at_return (S := S_impl_WithoutHostile) (x := (x0, x1, ())) ((D_impl_RemoveEdges x0 (D__impl_Graph_edges_WithoutHostile_2 x0 x1)), ()) [] h (by kernel_rfl) trivial (congrArg (fun z => (z, ())) (show ((D_impl_RemoveEdges x0 (D__impl_Graph_edges_WithoutHostile_2 x0 x1))) = D_impl_WithoutHostile x0 x1 from by rfl))

def D_spec_l33Honest (x0 : (List Int)) (x1 : Int) : Bool := (if x1 < 0 then true else (if x1 ≥ ((List.length x0 : Nat) : Int) then true else decide ((x0.getD ((x1).toNat) 0) = 0)))
def S_spec_l33Honest : Sum := { fid := 100, dom := [s34, (.int 3)], cod := [(.bool 4)], dp := true, fz := false, pre := fun x => (fun (x0 : (List Int)) (x1 : Int) => Sh.fit s34 x0) x.1 x.2.1, g := fun x => ((D_spec_l33Honest x.1 x.2.1), ()) }
def S_spec_l33Honest_tab : List (Nat × Sum) := []
theorem S_spec_l33Honest_ok : FnOK Try.prog 100 S_spec_l33Honest := by
  refine at_enter 20 (fun x => ⟨[(0, aF (.int 3) x.1), (1, aI x.2.1)], []⟩) Try.func100 rfl (by kernel_rfl) (fun x => rfl) ?_
  rintro w0 Z0 ⟨x0, x1, u⟩ a w
  revert x0 x1
  intro (x0 : (List Int)) (x1 : Int) hpre hlens h
  replace h : At w0 Z0 [] 20 ⟨[(0, aF (.int 3) x0), (1, aI x1)], []⟩ a w := h
  replace hpre : (fun (x0 : (List Int)) (x1 : Int) => Sh.fit s34 x0) x0 x1 := hpre
  have hl1 : List.length x0 ≤ 9223372036854775807 := hlens.1.1
  have hT : TabOK Try.prog S_spec_l33Honest_tab := .nil
  have hf0 := hpre
  have hn0_1 : List.length x0 ≤ 1073741824 := hf0.1
  refine wp_seq ?_
  refine at_regq (T := S_spec_l33Honest_tab) [] { ts := [0, 1, 4], os := [] } [] gamOK hT h (by kernel_rfl) trivial ?_
  intro a w h
  refine then_normal ?_
  refine wp_seq ?_
  by_cases h1 : x1 < 0
  · skip
    refine at_regq (T := S_spec_l33Honest_tab) [{}, { hint := some (aB true) }] { ts := [4], os := [] } [(AV.p (.c (.v (.bool (decide (x1 < 0))))) = AV.p (.c (.v (.bool true))))] gamOK hT h (by kernel_rfl) ⟨hint_bool (decide_eq_true h1), trivial⟩ ?_
    intro a w h
    refine then_normal ?_
    refine wp_ret ?_
    exact at_return (S := S_spec_l33Honest) (x := (x0, x1, ())) (true, ()) [] h (by kernel_rfl) trivial (congrArg (fun z => (z, ())) (show (true) = D_spec_l33Honest x0 x1 from by first | rfl | (unfold D_spec_l33Honest; rw [if_pos h1])))
  · skip
    by_cases h2 : x1 ≥ ((List.length x0 : Nat) : Int)
    · skip
      refine at_regq (T := S_spec_l33Honest_tab) [{}, { hint := some (aB false) }, {}, {}, {}, {}, { hint := some (aB true) }] { ts := [4], os := [] } [(AV.p (.c (.v (.bool (decide (x1 < 0))))) = AV.p (.c (.v (.bool false)))), (AV.p (.c (.v (.bool (decide (x1 ≥ ((List.length x0 : Nat) : Int)))))) = AV.p (.c (.v (.bool true))))] gamOK hT h (by kernel_rfl) ⟨hint_bool (decide_eq_false h1), hint_bool (decide_eq_true h2), trivial⟩ ?_
      intro a w h
      refine then_normal ?_
      refine wp_ret ?_
      exact at_return (S := S_spec_l33Honest) (x := (x0, x1, ())) (true, ()) [] h (by kernel_rfl) trivial (congrArg (fun z => (z, ())) (show (true) = D_spec_l33Honest x0 x1 from by first | rfl | (unfold D_spec_l33Honest; rw [if_neg h1, if_pos h2])))
    · skip
      refine at_regq (T := S_spec_l33Honest_tab) [{}, { hint := some (aB false) }, {}, {}, {}, {}, { hint := some (aB false) }] { ts := [4], os := [] } [(AV.p (.c (.v (.bool (decide (x1 < 0))))) = AV.p (.c (.v (.bool false)))), (AV.p (.c (.v (.bool (decide (x1 ≥ ((List.length x0 : Nat) : Int)))))) = AV.p (.c (.v (.bool false)))), (0 : Int) ≤ x1 ∧ x1 < ((List.length x0 : Nat) : Int)] gamOK hT h (by kernel_rfl) ⟨hint_bool (decide_eq_false h1), hint_bool (decide_eq_false h2), (by refine ⟨?_, ?_⟩ <;> (first | omega | (simp only [List.length_append, List.length_cons, List.length_nil, List.length_set, List.length_take, List.length_drop, List.length_replicate, List.length_map, Nat.min_def]; omega) | (simp; done) | (simp; omega) | done)), trivial⟩ ?_
      intro a w h
      refine then_normal ?_
      refine wp_ret ?_
      exact at_return (S := S_spec_l33Honest) (x := (x0, x1, ())) (decide ((x0.getD ((x1).toNat) 0) = 0), ()) [] h (by kernel_rfl) trivial (congrArg (fun z => (z, ())) (show (decide ((x0.getD ((x1).toNat) 0) = 0)) = D_spec_l33Honest x0 x1 from by first | rfl | (unfold D_spec_l33Honest; rw [if_neg h1, if_neg h2])))

def D_spec_WithoutHostile (x0 : T51) (x1 : (List Int)) : T51 := (x0.1, (List.filter (fun e => D_spec_l33Honest x1 e.1 && D_spec_l33Honest x1 e.2.1) x0.2))
def S_spec_WithoutHostile : Sum := { fid := 30, dom := [s51, s34], cod := [s51], dp := true, fz := false, pre := fun x => (fun (x0 : T51) (x1 : (List Int)) => Sh.fit s51 x0 ∧ Sh.fit s34 x1) x.1 x.2.1, g := fun x => ((D_spec_WithoutHostile x.1 x.2.1), ()) }
def S_spec_WithoutHostile_tab : List (Nat × Sum) := [(100, S_spec_l33Honest)]
theorem S_spec_WithoutHostile_ok : FnOK Try.prog 30 S_spec_WithoutHostile := by
  refine at_enter 46 (fun x => ⟨[(0, aG [cI x.1.1, .ro s127 x.1.2]), (1, aF (.int 3) x.2.1)], []⟩) Try.func30 rfl (by kernel_rfl) (fun x => rfl) ?_
  rintro w0 Z0 ⟨x0, x1, u⟩ a w
  revert x0 x1
  intro (x0 : T51) (x1 : (List Int)) hpre hlens h
  replace h : At w0 Z0 [] 46 ⟨[(0, aG [cI x0.1, .ro s127 x0.2]), (1, aF (.int 3) x1)], []⟩ a w := h
  replace hpre : (fun (x0 : T51) (x1 : (List Int)) => Sh.fit s51 x0 ∧ Sh.fit s34 x1) x0 x1 := hpre
  have hl1 : List.length x0.2 ≤ 9223372036854775807 := hlens.1.2.1
  have hl2 : List.length x1 ≤ 9223372036854775807 := hlens.2.1.1
  have hT : TabOK Try.prog S_spec_WithoutHostile_tab := (.cons S_spec_l33Honest_ok .nil)
  obtain ⟨hf0, hf1⟩ := hpre
  have hn0_1 : List.length x0.2 ≤ 1073741824 := hf0.2.1
  have hn1_2 : List.length x1 ≤ 1073741824 := hf1.1
  refine wp_seq ?_
  refine at_regq (T := S_spec_WithoutHostile_tab) [{ ids := [1] }, { ids := [2] }] { ts := [1, 2, 4], os := [1, 2] } [] gamOK hT h (by kernel_rfl) trivial ?_
  intro a w h
  refine then_normal ?_
  refine wp_seq ?_
  refine at_regq (T := S_spec_WithoutHostile_tab) [{}, {}, {}, { ids := [3] }] { ts := [1, 2, 4, 5], os := [1, 2, 3] } [] gamOK hT h (by kernel_rfl) trivial ?_
  intro a w h
  refine then_normal ?_
  refine wp_seq ?_
  refine wp_seq ?_
  refine at_regq (T := S_spec_WithoutHostile_tab) [] { ts := [1, 2, 4, 5, 6], os := [1, 2, 3] } [] gamOK hT h (by kernel_rfl) trivial ?_
  intro a w h
  refine then_normal ?_
  refine wp_block ?_
  replace h := at_out (σ' := ⟨[(1, aF (.int 3) x1), (2, aP 1 0), (4, aP 2 0), (5, aP 3 0), (6, aI 0)], [(1, oX 51 [cI x0.1, .ro s127 x0.2]), (2, oX 51 [cI 0, cN]), (3, oX 51 [cI x0.1, .sl 4]), (4, oR s127 ([] : List T127))]⟩) { mt := [⟨some 3, 1, 4, true, s127⟩], ts := [1, 2, 4, 5, 6], os := [1, 2, 3, 4] } h (by kernel_rfl)
  refine at_loop (fun i : Nat => (⟨[(1, aF (.int 3) x1), (2, aP 1 0), (4, aP 2 0), (5, aP 3 0), (6, aI ((i : Nat) : Int))], [(1, oX 51 [cI x0.1, .ro s127 x0.2]), (2, oX 51 [cI 0, cN]), (3, oX 51 [cI x0.1, .sl 4]), (4, oR s127 (List.filter (fun e => D_spec_l33Honest x1 e.1 && D_spec_l33Honest x1 e.2.1) (List.take i x0.2)))]⟩ : St)) (fun i => i ≤ List.length x0.2) (fun i => List.length x0.2 - i) (0) h (st_congr2 (fun (d0 : List T127) (d1 : Int) => (⟨[(1, aF (.int 3) x1), (2, aP 1 0), (4, aP 2 0), (5, aP 3 0), (6, aI d1)], [(1, oX 51 [cI x0.1, .ro s127 x0.2]), (2, oX 51 [cI 0, cN]), (3, oX 51 [cI x0.1, .sl 4]), (4, oR s127 d0)]⟩ : St)) (show (([] : List T127) : List T127) = (List.filter (fun e => D_spec_l33Honest x1 e.1 && D_spec_l33Honest x1 e.2.1) (List.take (0) x0.2)) from by first | rfl | (first | rfl | simp)) (show (0 : Int) = (((0) : Nat) : Int) from by first | rfl | (first | rfl | simp))) (by omega) ?_
  intro i a w hok0 h
  have hlt0 := len_filter_take (p := (fun e => D_spec_l33Honest x1 e.1 && D_spec_l33Honest x1 e.2.1)) (xs := x0.2) i
  refine wp_seq ?_
  refine wp_seq ?_
  refine at_reg (T := S_spec_WithoutHostile_tab) [] { ts := [1, 2, 4, 5, 6, 14], os := [1, 2, 3, 4] } ⟨[(1, aF (.int 3) x1), (2, aP 1 0), (4, aP 2 0), (5, aP 3 0), (6, aI ((i : Nat) : Int)), (14, aB (decide (((i : Nat) : Int) < ((List.length x0.2 : Nat) : Int))))], [(1, oX 51 [cI x0.1, .ro s127 x0.2]), (2, oX 51 [cI 0, cN]), (3, oX 51 [cI x0.1, .sl 4]), (4, oR s127 (List.filter (fun e => D_spec_l33Honest x1 e.1 && D_spec_l33Honest x1 e.2.1) (List.take i x0.2)))]⟩ [] gamOK hT h (by kernel_rfl) trivial ?_
  intro a w h
  refine then_normal ?_
  refine at_test (decide (((i : Nat) : Int) < ((List.length x0.2 : Nat) : Int))) h (by kernel_rfl) (fun h1 => ?_) (fun h1 => ?_)
  · replace h1 : ((i : Nat) : Int) < ((List.length x0.2 : Nat) : Int) := of_decide_eq_true h1
    refine wp_skip ?_
    refine then_normal ?_
    refine wp_seq ?_
    refine wp_block ?_
    refine wp_seq ?_
    rcases Bool.eq_false_or_eq_true ((D_spec_l33Honest x1 (x0.2.getD i (0, (0, 0))).1)) with h2 | h2
    · skip
      refine at_regq (T := S_spec_WithoutHostile_tab) [{}, {}, {}, {}, {}, {}, {}, { hint := some (aB true) }] { ts := [1, 2, 4, 5, 6, 26, 27, 28, 29, 30, 31, 32, 33, 34], os := [1, 2, 3, 4] } [(0 : Int) ≤ ((i : Nat) : Int) ∧ ((i : Nat) : Int) < ((List.length x0.2 : Nat) : Int), (fun (x0 : (List Int)) (x1 : Int) => Sh.fit s34 x0) x1 (x0.2.getD i (0, (0, 0))).1, (AV.p (.c (.v (.bool ((D_spec_l33Honest x1 (x0.2.getD i (0, (0, 0))).1))))) = AV.p (.c (.v (.bool true)))), (0 : Int) ≤ ((i : Nat) : Int) ∧ ((i : Nat) : Int) < ((List.length x0.2 : Nat) : Int), (fun (x0 : (List Int)) (x1 : Int) => Sh.fit s34 x0) x1 (x0.2.getD i (0, (0, 0))).2.1] gamOK hT h (by kernel_rfl) ⟨(by refine ⟨?_, ?_⟩ <;> (first | omega | (simp only [List.length_append, List.length_cons, List.length_nil, List.length_set, List.length_take, List.length_drop, List.length_replicate, List.length_map, Nat.min_def]; omega) | (simp; done) | (simp; omega) | done)), (by exact hf1), hint_bool (h2), (by refine ⟨?_, ?_⟩ <;> (first | omega | (simp only [List.length_append, List.length_cons, List.length_nil, List.length_set, List.length_take, List.length_drop, List.length_replicate, List.length_map, Nat.min_def]; omega) | (simp; done) | (simp; omega) | done)), (by exact hf1), trivial⟩ ?_
      intro a w h
      refine then_normal ?_
      refine at_test ((D_spec_l33Honest x1 (x0.2.getD i (0, (0, 0))).2.1)) h (by kernel_rfl) (fun h3 => ?_) (fun h3 => ?_)
      · refine at_anyq (T := S_spec_WithoutHostile_tab) [{}, {}, {}, {}, {}, {}, {}, { ids := [5] }, { ids := [6] }, {}, {}] { ts := [1, 2, 4, 5, 6, 26, 27, 28, 29, 30, 31, 32, 33], os := [1, 2, 3, 6] } [(0 : Int) ≤ ((i : Nat) : Int) ∧ ((i : Nat) : Int) < ((List.length x0.2 : Nat) : Int), (List.length (List.filter (fun e => D_spec_l33Honest x1 e.1 && D_spec_l33Honest x1 e.2.1) (List.take i x0.2)) + List.length ([(x0.2.getD i (0, (0, 0)))])) * 24 ≤ 140737488355328] gamOK hT mixed h (by kernel_rfl) ⟨(by refine ⟨?_, ?_⟩ <;> (first | omega | (simp only [List.length_append, List.length_cons, List.length_nil, List.length_set, List.length_take, List.length_drop, List.length_replicate, List.length_map, Nat.min_def]; omega) | (simp; done) | (simp; omega) | done)), (by first | omega | (simp only [List.length_append, List.length_cons, List.length_nil, List.length_set, List.length_take, List.length_drop, List.length_replicate, List.length_map, Nat.min_def]; omega) | (simp; done) | (simp; omega) | done), trivial⟩ ?_
        intro a w h
        refine in_normal ?_
        refine then_normal ?_
        refine at_regq (T := S_spec_WithoutHostile_tab) [{}, { nw := true }] { ts := [1, 2, 4, 5, 6, 26, 27, 28, 29, 30, 31, 32, 33], os := [1, 2, 3, 6] } [I64 (((i : Nat) : Int) + 1)] gamOK hT h (by kernel_rfl) ⟨⟨by first | omega | (simp only [List.length_append, List.length_cons, List.length_nil, List.length_set, List.length_take, List.length_drop, List.length_replicate, List.length_map, Nat.min_def]; omega) | (simp; done) | (simp; omega) | done, by first | omega | (simp only [List.length_append, List.length_cons, List.length_nil, List.length_set, List.length_take, List.length_drop, List.length_replicate, List.length_map, Nat.min_def]; omega) | (simp; done) | (simp; omega) | done⟩, trivial⟩ ?_
        intro a w h
        replace h := at_out (σ' := ⟨[(1, aF (.int 3) x1), (2, aP 1 0), (4, aP 2 0), (5, aP 3 0), (6, aI (((i : Nat) : Int) + 1))], [(1, oX 51 [cI x0.1, .ro s127 x0.2]), (2, oX 51 [cI 0, cN]), (3, oX 51 [cI x0.1, .sl 4]), (4, oR s127 ((List.filter (fun e => D_spec_l33Honest x1 e.1 && D_spec_l33Honest x1 e.2.1) (List.take i x0.2)) ++ ([(x0.2.getD i (0, (0, 0)))])))]⟩) { ts := [1, 2, 4, 5, 6], os := [1, 2, 3, 6], rn := [(6, 4)] } h (by kernel_rfl)
        exact ⟨i + 1, at_eq h (st_congr2 (fun (d0 : List T127) (d1 : Int) => (⟨[(1, aF (.int 3) x1), (2, aP 1 0), (4, aP 2 0), (5, aP 3 0), (6, aI d1)], [(1, oX 51 [cI x0.1, .ro s127 x0.2]), (2, oX 51 [cI 0, cN]), (3, oX 51 [cI x0.1, .sl 4]), (4, oR s127 d0)]⟩ : St)) (show (((List.filter (fun e => D_spec_l33Honest x1 e.1 && D_spec_l33Honest x1 e.2.1) (List.take i x0.2)) ++ ([(x0.2.getD i (0, (0, 0)))])) : List T127) = (List.filter (fun e => D_spec_l33Honest x1 e.1 && D_spec_l33Honest x1 e.2.1) (List.take (i + 1) x0.2)) from by first | rfl | (first | (rw [filter_snoc_t (z := (0, (0, 0))) (by omega) (by first | assumption | (simp_all; done))]; done) | (rw [filter_snoc_f (z := (0, (0, 0))) (by omega) (by first | assumption | (simp_all; done))]; done))) (show (((i : Nat) : Int) + 1 : Int) = (((i + 1) : Nat) : Int) from by first | rfl | (omega))), (by omega), (by omega)⟩
      · refine wp_skip ?_
        refine in_normal ?_
        refine then_normal ?_
        refine at_regq (T := S_spec_WithoutHostile_tab) [{}, { nw := true }] { ts := [1, 2, 4, 5, 6, 26, 27, 28, 29, 30, 31, 32, 33], os := [1, 2, 3, 4] } [I64 (((i : Nat) : Int) + 1)] gamOK hT h (by kernel_rfl) ⟨⟨by first | omega | (simp only [List.length_append, List.length_cons, List.length_nil, List.length_set, List.length_take, List.length_drop, List.length_replicate, List.length_map, Nat.min_def]; omega) | (simp; done) | (simp; omega) | done, by first | omega | (simp only [List.length_append, List.length_cons, List.length_nil, List.length_set, List.length_take, List.length_drop, List.length_replicate, List.length_map, Nat.min_def]; omega) | (simp; done) | (simp; omega) | done⟩, trivial⟩ ?_
        intro a w h
        replace h := at_out (σ' := ⟨[(1, aF (.int 3) x1), (2, aP 1 0), (4, aP 2 0), (5, aP 3 0), (6, aI (((i : Nat) : Int) + 1))], [(1, oX 51 [cI x0.1, .ro s127 x0.2]), (2, oX 51 [cI 0, cN]), (3, oX 51 [cI x0.1, .sl 4]), (4, oR s127 (List.filter (fun e => D_spec_l33Honest x1 e.1 && D_spec_l33Honest x1 e.2.1) (List.take i x0.2)))]⟩) { ts := [1, 2, 4, 5, 6], os := [1, 2, 3, 4] } h (by kernel_rfl)
        exact ⟨i + 1, at_eq h (st_congr2 (fun (d0 : List T127) (d1 : Int) => (⟨[(1, aF (.int 3) x1), (2, aP 1 0), (4, aP 2 0), (5, aP 3 0), (6, aI d1)], [(1, oX 51 [cI x0.1, .ro s127 x0.2]), (2, oX 51 [cI 0, cN]), (3, oX 51 [cI x0.1, .sl 4]), (4, oR s127 d0)]⟩ : St)) (show ((List.filter (fun e => D_spec_l33Honest x1 e.1 && D_spec_l33Honest x1 e.2.1) (List.take i x0.2)) : List T127) = (List.filter (fun e => D_spec_l33Honest x1 e.1 && D_spec_l33Honest x1 e.2.1) (List.take (i + 1) x0.2)) from by first | rfl | (first | (rw [filter_snoc_t (z := (0, (0, 0))) (by omega) (by first | assumption | (simp_all; done))]; done) | (rw [filter_snoc_f (z := (0, (0, 0))) (by omega) (by first | assumption | (simp_all; done))]; done))) (show (((i : Nat) : Int) + 1 : Int) = (((i + 1) : Nat) : Int) from by first | rfl | (omega))), (by omega), (by omega)⟩
    · skip
      refine at_regq (T := S_spec_WithoutHostile_tab) [{}, {}, {}, {}, {}, {}, {}, { hint := some (aB false) }] { ts := [1, 2, 4, 5, 6, 34], os := [1, 2, 3, 4] } [(0 : Int) ≤ ((i : Nat) : Int) ∧ ((i : Nat) : Int) < ((List.length x0.2 : Nat) : Int), (fun (x0 : (List Int)) (x1 : Int) => Sh.fit s34 x0) x1 (x0.2.getD i (0, (0, 0))).1, (AV.p (.c (.v (.bool ((D_spec_l33Honest x1 (x0.2.getD i (0, (0, 0))).1))))) = AV.p (.c (.v (.bool false))))] gamOK hT h (by kernel_rfl) ⟨(by refine ⟨?_, ?_⟩ <;> (first | omega | (simp only [List.length_append, List.length_cons, List.length_nil, List.length_set, List.length_take, List.length_drop, List.length_replicate, List.length_map, Nat.min_def]; omega) | (simp; done) | (simp; omega) | done)), (by exact hf1), hint_bool (h2), trivial⟩ ?_
      intro a w h
      refine then_normal ?_
      refine at_test false h (by kernel_rfl) (fun hh => nomatch hh) (fun hh => ?_)
      refine wp_skip ?_
      refine in_normal ?_
      refine then_normal ?_
      refine at_regq (T := S_spec_WithoutHostile_tab) [{}, { nw := true }] { ts := [1, 2, 4, 5, 6], os := [1, 2, 3, 4] } [I64 (((i : Nat) : Int) + 1)] gamOK hT h (by kernel_rfl) ⟨⟨by first | omega | (simp only [List.length_append, List.length_cons, List.length_nil, List.length_set, List.length_take, List.length_drop, List.length_replicate, List.length_map, Nat.min_def]; omega) | (simp; done) | (simp; omega) | done, by first | omega | (simp only [List.length_append, List.length_cons, List.length_nil, List.length_set, List.length_take, List.length_drop, List.length_replicate, List.length_map, Nat.min_def]; omega) | (simp; done) | (simp; omega) | done⟩, trivial⟩ ?_
      intro a w h
      replace h := at_out (σ' := ⟨[(1, aF (.int 3) x1), (2, aP 1 0), (4, aP 2 0), (5, aP 3 0), (6, aI (((i : Nat) : Int) + 1))], [(1, oX 51 [cI x0.1, .ro s127 x0.2]), (2, oX 51 [cI 0, cN]), (3, oX 51 [cI x0.1, .sl 4]), (4, oR s127 (List.filter (fun e => D_spec_l33Honest x1 e.1 && D_spec_l33Honest x1 e.2.1) (List.take i x0.2)))]⟩) { ts := [1, 2, 4, 5, 6], os := [1, 2, 3, 4] } h (by kernel_rfl)
      exact ⟨i + 1, at_eq h (st_congr2 (fun (d0 : List T127) (d1 : Int) => (⟨[(1, aF (.int 3) x1), (2, aP 1 0), (4, aP 2 0), (5, aP 3 0), (6, aI d1)], [(1, oX 51 [cI x0.1, .ro s127 x0.2]), (2, oX 51 [cI 0, cN]), (3, oX 51 [cI x0.1, .sl 4]), (4, oR s127 d0)]⟩ : St)) (show ((List.filter (fun e => D_spec_l33Honest x1 e.1 && D_spec_l33Honest x1 e.2.1) (List.take i x0.2)) : List T127) = (List.filter (fun e => D_spec_l33Honest x1 e.1 && D_spec_l33Honest x1 e.2.1) (List.take (i + 1) x0.2)) from by first | rfl | (first | (rw [filter_snoc_t (z := (0, (0, 0))) (by omega) (by first | assumption | (simp_all; done))]; done) | (rw [filter_snoc_f (z := (0, (0, 0))) (by omega) (by first | assumption | (simp_all; done))]; done))) (show (((i : Nat) : Int) + 1 : Int) = (((i + 1) : Nat) : Int) from by first | rfl | (omega))), (by omega), (by omega)⟩
  · replace h1 : ¬ (((i : Nat) : Int) < ((List.length x0.2 : Nat) : Int)) := of_decide_eq_false h1
    refine wp_exit ?_
    refine then_exit ?_
    replace h := at_eq (σ' := ⟨[(1, aF (.int 3) x1), (2, aP 1 0), (4, aP 2 0), (5, aP 3 0), (6, aI ((i : Nat) : Int)), (14, aB (decide (((i : Nat) : Int) < ((List.length x0.2 : Nat) : Int))))], [(1, oX 51 [cI x0.1, .ro s127 x0.2]), (2, oX 51 [cI 0, cN]), (3, oX 51 [cI x0.1, .sl 4]), (4, oR s127 (List.filter (fun e => D_spec_l33Honest x1 e.1 && D_spec_l33Honest x1 e.2.1) x0.2))]⟩) h (st_congr1 (fun (d0 : List T127) => (⟨[(1, aF (.int 3) x1), (2, aP 1 0), (4, aP 2 0), (5, aP 3 0), (6, aI ((i : Nat) : Int)), (14, aB (decide (((i : Nat) : Int) < ((List.length x0.2 : Nat) : Int))))], [(1, oX 51 [cI x0.1, .ro s127 x0.2]), (2, oX 51 [cI 0, cN]), (3, oX 51 [cI x0.1, .sl 4]), (4, oR s127 d0)]⟩ : St)) (show ((List.filter (fun e => D_spec_l33Honest x1 e.1 && D_spec_l33Honest x1 e.2.1) (List.take i x0.2)) : List T127) = (List.filter (fun e => D_spec_l33Honest x1 e.1 && D_spec_l33Honest x1 e.2.1) x0.2) from by first | rfl | (rw [take_all (by omega)])))
    refine then_exit ?_
    refine in_hit ?_
    refine then_normal ?_
    refine wp_seq ?_
    refine at_regq (T := S_spec_WithoutHostile_tab) [] { ts := [4], os := [2, 4] } [] gamOK hT h (by kernel_rfl) trivial ?_
    intro a w h
    refine then_normal ?_
    refine wp_ret ?_
    exact at_return (S := S_spec_WithoutHostile) (x := (x0, x1, ())) ((x0.1, (List.filter (fun e => D_spec_l33Honest x1 e.1 && D_spec_l33Honest x1 e.2.1) x0.2)), ()) [] h (by kernel_rfl) trivial (congrArg (fun z => (z, ())) (show ((x0.1, (List.filter (fun e => D_spec_l33Honest x1 e.1 && D_spec_l33Honest x1 e.2.1) x0.2))) = D_spec_WithoutHostile x0 x1 from by rfl))

theorem l33_eq (bs : List Int) (a : Int) : D_spec_l33Honest bs a = !D_impl_WithoutHostile_1 a bs := by
  unfold D_impl_WithoutHostile_1 D_spec_l33Honest
  by_cases h1 : a < 0
  · rw [if_pos h1, if_neg (fun h => by have := inR_t h; omega)]; rfl
  · rw [if_neg h1]
    by_cases h2 : a ≥ ((List.length bs : Nat) : Int)
    · rw [if_pos h2, if_neg (fun h => by have := inR_t h; omega)]; rfl
    · rw [if_neg h2, if_pos (inR_true (by omega))]; simp
theorem withoutHostile_eq (g : T51) (bs : List Int) : D_impl_WithoutHostile g bs = D_spec_WithoutHostile g bs := by
  unfold D_impl_WithoutHostile D_spec_WithoutHostile D_impl_RemoveEdges D__impl_Graph_edges_WithoutHostile_2
  rw [remTo_idxs (Nat.le_refl _) (Nat.le_refl _), List.take_length]
  congr 1
  apply List.filter_congr
  intro e _
  rw [l33_eq, l33_eq]; unfold D_impl_WithoutHostile_2
  cases D_impl_WithoutHostile_1 e.1 bs <;> simp



def D_laws_FnExactWithoutHostile := (fun (_ : T47) (_ : (List Int)) => true)
def S_laws_FnExactWithoutHostile : Sum := { fid := 5, dom := [s47, s34], cod := [(.bool 4)], dp := true, fz := false, pre := fun x => (fun (x0 : T47) (x1 : (List Int)) => Sh.i64 s47 x0 ∧ Sh.i64 s34 x1) x.1 x.2.1, g := fun x => ((D_laws_FnExactWithoutHostile x.1 x.2.1), ()) }
def S_laws_FnExactWithoutHostile_tab : List (Nat × Sum) := [(29, S_laws_szGraph), (31, S_laws_toGraph), (32, S_laws_toIntS), (30, S_spec_WithoutHostile), (33, S_impl_WithoutHostile), (34, S_laws_eqGraph), (35, S_laws_eqIntS), (36, S_laws_markGraph), (37, S_laws_markIntS), (38, S_laws_heldGraph)]
theorem S_laws_FnExactWithoutHostile_ok : FnOK Try.prog 5 S_laws_FnExactWithoutHostile := by
  refine at_enter 90 (fun x => ⟨[(0, aG [cI x.1.1, .ro s171 x.1.2]), (1, aF (.int 3) x.2.1)], []⟩) Try.func5 rfl (by kernel_rfl) (fun x => rfl) ?_
  rintro w0 Z0 ⟨x0, x1, u⟩ a w
  revert x0 x1
  intro (x0 : T47) (x1 : (List Int)) hpre hlens h
  replace h : At w0 Z0 [] 90 ⟨[(0, aG [cI x0.1, .ro s171 x0.2]), (1, aF (.int 3) x1)], []⟩ a w := h
  replace hpre : (fun (x0 : T47) (x1 : (List Int)) => Sh.i64 s47 x0 ∧ Sh.i64 s34 x1) x0 x1 := hpre
  have hl1 : List.length x0.2 ≤ 9223372036854775807 := hlens.1.2.1
  have hl2 : List.length x1 ≤ 9223372036854775807 := hlens.2.1.1
  have hT : TabOK Try.prog S_laws_FnExactWithoutHostile_tab := (.cons S_laws_szGraph_ok (.cons S_laws_toGraph_ok (.cons S_laws_toIntS_ok (.cons S_spec_WithoutHostile_ok (.cons S_impl_WithoutHostile_ok (.cons S_laws_eqGraph_ok (.cons S_laws_eqIntS_ok (.cons S_laws_markGraph_ok (.cons S_laws_markIntS_ok (.cons S_laws_heldGraph_ok .nil))))))))))
  have hq0 : Sh.sz s51 x0 = Sh.sz s47 x0 := rfl
  have hb0 : Sh.ctT s51 x0 ≤ 4 * Sh.sz s51 x0 := Sh.ctT_le2 s51 x0
  have hz0 : Sh.ct s51 x0 ≤ 4 * (1 + Sh.sz s51 x0) := Sh.ct_le s51 x0
  have ht0 : Sh.sz s47 x0 = (0 + (Sh.sz s45 x0.2)) := rfl
  have hs0_1 : Sh.sz s45 x0.2 = List.length x0.2 := sz_flat (by rfl) _
  have hq1 : Sh.sz s34 x1 = Sh.sz s34 x1 := rfl
  have hb1 : Sh.ctT s34 x1 ≤ 1 * Sh.sz s34 x1 := Sh.ctT_le2 s34 x1
  have hz1 : Sh.ct s34 x1 ≤ 1 * (1 + Sh.sz s34 x1) := Sh.ct_le s34 x1
  have hs1_1 : Sh.sz s34 x1 = List.length x1 := sz_flat (by rfl) _
  have hr1 : Sh.ctT s51 (D_spec_WithoutHostile x0 x1) ≤ 4 * Sh.sz s51 (D_spec_WithoutHostile x0 x1) := Sh.ctT_le2 s51 _
  have hr2 : Sh.sz s51 (D_spec_WithoutHostile x0 x1) = 0 + Sh.sz s49 (D_spec_WithoutHostile x0 x1).2 := rfl
  have hr3 : Sh.sz s49 (D_spec_WithoutHostile x0 x1).2 = List.length (D_spec_WithoutHostile x0 x1).2 := sz_flat (by rfl) _
  have hr4 : List.length (D_spec_WithoutHostile x0 x1).2 ≤ List.length x0.2 := List.length_filter_le _ _
  have hr5 := withoutHostile_eq x0 x1
  rw [← hr5] at hr1 hr2 hr3 hr4
  refine wp_seq ?_
  refine at_regq (T := S_laws_FnExactWithoutHostile_tab) [{ ids := [1] }] { ts := [1, 2, 4], os := [1] } [] gamOK hT h (by kernel_rfl) trivial ?_
  intro a w h
  refine then_normal ?_
  refine wp_seq ?_
  refine wp_seq ?_
  refine at_regq (T := S_laws_FnExactWithoutHostile_tab) [] { ts := [1, 2, 4, 16], os := [1] } [] gamOK hT h (by kernel_rfl) trivial ?_
  intro a w h
  refine then_normal ?_
  refine at_test (decide (((List.length x1 : Nat) : Int) > 1048576)) h (by kernel_rfl) (fun h1 => ?_) (fun h1 => ?_)
  · replace h1 : ((List.length x1 : Nat) : Int) > 1048576 := of_decide_eq_true h1
    refine wp_seq ?_
    refine at_regq (T := S_laws_FnExactWithoutHostile_tab) [] { ts := [1, 2, 4], os := [1] } [] gamOK hT h (by kernel_rfl) trivial ?_
    intro a w h
    refine then_normal ?_
    refine wp_ret ?_
    refine then_ret ?_
    exact at_return (S := S_laws_FnExactWithoutHostile) (x := (x0, x1, ())) (true, ()) [] h (by kernel_rfl) trivial (congrArg (fun z => (z, ())) (show (true) = D_laws_FnExactWithoutHostile x0 x1 from by unfold D_laws_FnExactWithoutHostile; rfl))
  · replace h1 : ¬ (((List.length x1 : Nat) : Int) > 1048576) := of_decide_eq_false h1
    refine wp_skip ?_
    refine then_normal ?_
    refine wp_seq ?_
    refine at_regq (T := S_laws_FnExactWithoutHostile_tab) [] { ts := [1, 2, 4, 5], os := [1] } [] gamOK hT h (by kernel_rfl) trivial ?_
    intro a w h
    refine then_normal ?_
    refine wp_seq ?_
    refine at_reg (T := S_laws_FnExactWithoutHostile_tab) [] { ts := [1, 2, 4, 5], os := [1] } ⟨[(1, aF (.int 3) x1), (2, aP 1 0), (4, aB false), (5, aI ((szD s47) x0 1048576))], [(1, oX 47 [cI x0.1, .ro s171 x0.2])]⟩ [(pSz s47) x0 1048576] gamOK hT h (by kernel_rfl) ⟨(by (show (0 : Int) ≤ _ ∧ _ ≤ (9223372036854775807 : Int); constructor <;> omega)), trivial⟩ ?_
    intro a w h
    refine then_normal ?_
    refine wp_seq ?_
    refine wp_seq ?_
    refine at_regq (T := S_laws_FnExactWithoutHostile_tab) [] { ts := [1, 2, 4, 21], os := [1] } [] gamOK hT h (by kernel_rfl) trivial ?_
    intro a w h
    refine then_normal ?_
    refine at_test (decide (((szD s47) x0 1048576) < 0)) h (by kernel_rfl) (fun h2 => ?_) (fun h2 => ?_)
    · replace h2 : ((szD s47) x0 1048576) < 0 := of_decide_eq_true h2
      have hvh2 := szD_neg h2 (by omega)
      refine wp_seq ?_
      refine at_regq (T := S_laws_FnExactWithoutHostile_tab) [] { ts := [1, 2, 4], os := [1] } [] gamOK hT h (by kernel_rfl) trivial ?_
      intro a w h
      refine then_normal ?_
      refine wp_ret ?_
      refine then_ret ?_
      exact at_return (S := S_laws_FnExactWithoutHostile) (x := (x0, x1, ())) (true, ()) [] h (by kernel_rfl) trivial (congrArg (fun z => (z, ())) (show (true) = D_laws_FnExactWithoutHostile x0 x1 from by unfold D_laws_FnExactWithoutHostile; rfl))
    · replace h2 : ¬ (((szD s47) x0 1048576) < 0) := of_decide_eq_false h2
      have hvh2 := szD_val h2 (by omega)
      refine wp_skip ?_
      refine then_normal ?_
      refine wp_seq ?_
      refine at_regq (T := S_laws_FnExactWithoutHostile_tab) [{}, { ids := [2] }, {}, { ids := [3] }, { ids := [4] }, { ids := [5] }] { ts := [1, 2, 4, 6], os := [1, 4, 5] } [(pTo s47) x0, (pTo s34) x1, (fun (x0 : T51) (x1 : (List Int)) => Sh.fit s51 x0 ∧ Sh.fit s34 x1) x0 x1] gamOK hT h (by kernel_rfl) ⟨(by (show Sh.sz _ _ ≤ 1048576; omega)), (by (show Sh.sz _ _ ≤ 1048576; omega)), (by exact ⟨(Sh.fit_of_sz s51 rfl (x := x0) (by omega)), (Sh.fit_of_sz s34 rfl (x := x1) (by omega))⟩), trivial⟩ ?_
      intro a w h
      refine then_normal ?_
      refine wp_seq ?_
      refine at_regq (T := S_laws_FnExactWithoutHostile_tab) [{}, { ids := [6] }, { ids := [7] }] { ts := [1, 2, 4, 6, 7], os := [1, 4, 5, 6, 7] } [(pTo s47) x0] gamOK hT h (by kernel_rfl) ⟨(by (show Sh.sz _ _ ≤ 1048576; omega)), trivial⟩ ?_
      intro a w h
      refine then_normal ?_
      refine wp_seq ?_
      refine at_reg (T := S_laws_FnExactWithoutHostile_tab) [{}, { ids := [8] }] { ts := [1, 2, 4, 6, 7, 8], os := [1, 4, 5, 6, 7, 8] } ⟨[(1, aF (.int 3) x1), (2, aP 1 0), (4, aB false), (6, aP 5 0), (7, aP 7 0), (8, aS 8)], [(1, oX 47 [cI x0.1, .ro s171 x0.2]), (4, oR s127 (D_spec_WithoutHostile x0 x1).2), (5, oX 51 [cI (D_spec_WithoutHostile x0 x1).1, .sl 4]), (6, oR s127 x0.2), (7, oX 51 [cI x0.1, .sl 6]), (8, oR (.int 3) x1)]⟩ [(pTo s34) x1] gamOK hT h (by kernel_rfl) ⟨(by (show Sh.sz _ _ ≤ 1048576; omega)), trivial⟩ ?_
      intro a w h
      refine then_normal ?_
      refine wp_seq ?_
      refine at_regq (T := S_laws_FnExactWithoutHostile_tab) [{}, {}, { ids := [9] }, { ids := [10] }] { ts := [1, 2, 4, 6, 7, 8, 9], os := [1, 4, 5, 6, 7, 8, 9, 10] } [(fun (x0 : T51) (x1 : (List Int)) => Sh.fit s51 x0 ∧ Sh.fit s34 x1) x0 x1] gamOK hT h (by kernel_rfl) ⟨(by exact ⟨(Sh.fit_of_sz s51 rfl (x := x0) (by omega)), (Sh.fit_of_sz s34 rfl (x := x1) (by omega))⟩), trivial⟩ ?_
      intro a w h
      refine then_normal ?_
      refine wp_seq ?_
      refine wp_seq ?_
      refine at_regq (T := S_laws_FnExactWithoutHostile_tab) [] { ts := [1, 2, 4, 6, 7, 8, 9, 37], os := [1, 4, 5, 6, 7, 8, 9, 10] } [True] gamOK hT h (by kernel_rfl) ⟨trivial, trivial⟩ ?_
      intro a w h
      refine then_normal ?_
      refine at_test (!((Sh.eqB s51) (D_impl_WithoutHostile x0 x1) (D_spec_WithoutHostile x0 x1))) h (by kernel_rfl) (fun h3 => ?_) (fun h3 => ?_)
      · replace h3 : ((Sh.eqB s51) (D_impl_WithoutHostile x0 x1) (D_spec_WithoutHostile x0 x1)) = false := notT h3
        refine wp_seq ?_
        refine at_regq (T := S_laws_FnExactWithoutHostile_tab) [] { ts := [1, 2, 4, 6, 7, 8, 9], os := [1, 4, 5, 6, 7, 8, 9, 10] } [] gamOK hT h (by kernel_rfl) trivial ?_
        intro a w h
        refine then_normal ?_
        refine wp_ret ?_
        refine then_ret ?_
        exact at_return (S := S_laws_FnExactWithoutHostile) (x := (x0, x1, ())) (false, ()) [] h (by kernel_rfl) trivial (congrArg (fun z => (z, ())) (show (false) = D_laws_FnExactWithoutHostile x0 x1 from by unfold D_laws_FnExactWithoutHostile; exact absurd ((Sh.eqB_iff _).2 (show _ = _ from by first | rfl | (exact withoutHostile_eq _ _))) (neT h3)))
      · replace h3 : ((Sh.eqB s51) (D_impl_WithoutHostile x0 x1) (D_spec_WithoutHostile x0 x1)) = true := notF h3
        refine wp_skip ?_
        refine then_normal ?_
        refine wp_seq ?_
        refine wp_seq ?_
        refine at_anyq (T := S_laws_FnExactWithoutHostile_tab) [{}, {}, { ids := [11] }, {}, {}] { ts := [1, 2, 4, 6, 7, 8, 9, 42], os := [1, 4, 5, 6, 7, 8, 9, 10] } [(pTo s47) x0, True] gamOK hT mixed h (by kernel_rfl) ⟨(by (show Sh.sz _ _ ≤ 1048576; omega)), trivial, trivial⟩ ?_
        intro a w h
        refine then_normal ?_
        refine at_test (!((Sh.eqB s51) x0 x0)) h (by kernel_rfl) (fun h4 => ?_) (fun h4 => ?_)
        · replace h4 : ((Sh.eqB s51) x0 x0) = false := notT h4
          refine wp_seq ?_
          refine at_reg (T := S_laws_FnExactWithoutHostile_tab) [] { ts := [1, 2, 4, 6, 7, 8, 9], os := [1, 4, 5, 6, 7, 8, 9, 10] } ⟨[(1, aF (.int 3) x1), (2, aP 1 0), (4, aB false), (6, aP 5 0), (7, aP 7 0), (8, aS 8), (9, aP 10 0)], [(1, oX 47 [cI x0.1, .ro s171 x0.2]), (4, oR s127 (D_spec_WithoutHostile x0 x1).2), (5, oX 51 [cI (D_spec_WithoutHostile x0 x1).1, .sl 4]), (6, oR s127 x0.2), (7, oX 51 [cI x0.1, .sl 6]), (8, oR (.int 3) x1), (9, oR s127 (D_impl_WithoutHostile x0 x1).2), (10, oX 51 [cI (D_impl_WithoutHostile x0 x1).1, .sl 9])]⟩ [] gamOK hT h (by kernel_rfl) trivial ?_
          intro a w h
          refine then_normal ?_
          refine wp_ret ?_
          refine then_ret ?_
          exact at_return (S := S_laws_FnExactWithoutHostile) (x := (x0, x1, ())) (false, ()) [] h (by kernel_rfl) trivial (congrArg (fun z => (z, ())) (show (false) = D_laws_FnExactWithoutHostile x0 x1 from by unfold D_laws_FnExactWithoutHostile; exact absurd ((Sh.eqB_iff _).2 (show _ = _ from by first | rfl | (exact withoutHostile_eq _ _))) (neT h4)))
        · replace h4 : ((Sh.eqB s51) x0 x0) = true := notF h4
          refine wp_skip ?_
          refine then_normal ?_
          refine wp_seq ?_
          refine wp_seq ?_
          refine at_reg (T := S_laws_FnExactWithoutHostile_tab) [{}, {}, { ids := [12] }] { ts := [1, 2, 4, 6, 7, 8, 9, 47], os := [1, 4, 5, 6, 7, 8, 9, 10] } ⟨[(1, aF (.int 3) x1), (2, aP 1 0), (4, aB false), (6, aP 5 0), (7, aP 7 0), (8, aS 8), (9, aP 10 0), (47, aB (!((Sh.eqB s34) x1 x1)))], [(1, oX 47 [cI x0.1, .ro s171 x0.2]), (4, oR s127 (D_spec_WithoutHostile x0 x1).2), (5, oX 51 [cI (D_spec_WithoutHostile x0 x1).1, .sl 4]), (6, oR s127 x0.2), (7, oX 51 [cI x0.1, .sl 6]), (8, oR (.int 3) x1), (9, oR s127 (D_impl_WithoutHostile x0 x1).2), (10, oX 51 [cI (D_impl_WithoutHostile x0 x1).1, .sl 9])]⟩ [(pTo s34) x1, True] gamOK hT h (by kernel_rfl) ⟨(by (show Sh.sz _ _ ≤ 1048576; omega)), trivial, trivial⟩ ?_
          intro a w h
          refine then_normal ?_
          refine at_test (!((Sh.eqB s34) x1 x1)) h (by kernel_rfl) (fun h5 => ?_) (fun h5 => ?_)
          · replace h5 : ((Sh.eqB s34) x1 x1) = false := notT h5
            refine wp_seq ?_
            refine at_regq (T := S_laws_FnExactWithoutHostile_tab) [] { ts := [1, 2, 4, 6, 7, 8, 9], os := [1, 4, 5, 6, 7, 8, 9, 10] } [] gamOK hT h (by kernel_rfl) trivial ?_
            intro a w h
            refine then_normal ?_
            refine wp_ret ?_
            refine then_ret ?_
            exact at_return (S := S_laws_FnExactWithoutHostile) (x := (x0, x1, ())) (false, ()) [] h (by kernel_rfl) trivial (congrArg (fun z => (z, ())) (show (false) = D_laws_FnExactWithoutHostile x0 x1 from by unfold D_laws_FnExactWithoutHostile; exact absurd ((Sh.eqB_iff _).2 (show _ = _ from by first | rfl | (exact withoutHostile_eq _ _))) (neT h5)))
          · replace h5 : ((Sh.eqB s34) x1 x1) = true := notF h5
            refine wp_skip ?_
            refine then_normal ?_
            refine wp_seq ?_
            refine at_regq (T := S_laws_FnExactWithoutHostile_tab) [] { ts := [1, 2, 4, 6, 7, 8, 9, 10], os := [1, 4, 5, 6, 7, 8, 9, 10] } [] gamOK hT h (by kernel_rfl) trivial ?_
            intro a w h
            refine then_normal ?_
            refine wp_seq ?_
            refine at_regq (T := S_laws_FnExactWithoutHostile_tab) [] { ts := [1, 2, 4, 6, 8, 9, 10], os := [1, 4, 5, 8, 9, 10] } [(pMkT s51) x0 1] gamOK hT h (by kernel_rfl) ⟨(by (show (0 : Int) ≤ _ ∧ _ + ((Sh.ctT _ _ : Nat) : Int) ≤ (4611686018427387904 : Int); (try simp only [mkK, mkKT, Sh.ctT_mkT, Sh.ct_mk]); constructor <;> omega)), trivial⟩ ?_
            intro a w h
            refine then_normal ?_
            refine wp_seq ?_
            refine at_regq (T := S_laws_FnExactWithoutHostile_tab) [] { ts := [1, 2, 4, 6, 9, 10], os := [1, 4, 5, 9, 10] } [(pMk s34) x1 ((mkKT s51) x0 1)] gamOK hT h (by kernel_rfl) ⟨(by (show (0 : Int) ≤ _ ∧ _ + ((Sh.ct _ _ : Nat) : Int) ≤ (4611686018427387904 : Int); (try simp only [mkK, mkKT, Sh.ctT_mkT, Sh.ct_mk]); constructor <;> omega)), trivial⟩ ?_
            intro a w h
            refine then_normal ?_
            refine wp_seq ?_
            refine wp_seq ?_
            by_cases h6 : ((mkK s34) x1 ((mkKT s51) x0 1)) < 0
            · skip
              refine at_reg (T := S_laws_FnExactWithoutHostile_tab) [{}, { hint := some (aB true) }] { ts := [1, 2, 4, 6, 9, 61], os := [1, 4, 5, 9, 10] } ⟨[(1, aF (.int 3) x1), (2, aP 1 0), (4, aB false), (6, aP 5 0), (9, aP 10 0), (61, aB true)], [(1, oX 47 [cI x0.1, .ro s171 x0.2]), (4, oR s127 (D_spec_WithoutHostile x0 x1).2), (5, oX 51 [cI (D_spec_WithoutHostile x0 x1).1, .sl 4]), (9, oR s127 (D_impl_WithoutHostile x0 x1).2), (10, oX 51 [cI (D_impl_WithoutHostile x0 x1).1, .sl 9])]⟩ [(AV.p (.c (.v (.bool (decide (((mkK s34) x1 ((mkKT s51) x0 1)) < 0))))) = AV.p (.c (.v (.bool true))))] gamOK hT h (by kernel_rfl) ⟨hint_bool (decide_eq_true h6), trivial⟩ ?_
              intro a w h
              refine then_normal ?_
              refine at_test true h (by kernel_rfl) (fun hh => ?_) (fun hh => nomatch hh)
              refine wp_seq ?_
              refine at_regq (T := S_laws_FnExactWithoutHostile_tab) [] { ts := [1, 2, 4, 6, 9], os := [1, 4, 5, 9, 10] } [] gamOK hT h (by kernel_rfl) trivial ?_
              intro a w h
              refine then_normal ?_
              refine wp_ret ?_
              refine then_ret ?_
              exact at_return (S := S_laws_FnExactWithoutHostile) (x := (x0, x1, ())) (false, ()) [] h (by kernel_rfl) trivial (congrArg (fun z => (z, ())) (show (false) = D_laws_FnExactWithoutHostile x0 x1 from by unfold D_laws_FnExactWithoutHostile; (exfalso; simp only [mkK, mkKT, Sh.ctT_mkT, Sh.ct_mk] at h6; first | omega | exact h6 trivial | exact h6 rfl)))
            · skip
              refine at_reg (T := S_laws_FnExactWithoutHostile_tab) [{}, { hint := some (aB false) }] { ts := [1, 2, 4, 6, 9, 61], os := [1, 4, 5, 9, 10] } ⟨[(1, aF (.int 3) x1), (2, aP 1 0), (4, aB false), (6, aP 5 0), (9, aP 10 0), (61, aB (!((Sh.eqB s51) (D_impl_WithoutHostile x0 x1) (D_spec_WithoutHostile x0 x1))))], [(1, oX 47 [cI x0.1, .ro s171 x0.2]), (4, oR s127 (D_spec_WithoutHostile x0 x1).2), (5, oX 51 [cI (D_spec_WithoutHostile x0 x1).1, .sl 4]), (9, oR s127 (D_impl_WithoutHostile x0 x1).2), (10, oX 51 [cI (D_impl_WithoutHostile x0 x1).1, .sl 9])]⟩ [(AV.p (.c (.v (.bool (decide (((mkK s34) x1 ((mkKT s51) x0 1)) < 0))))) = AV.p (.c (.v (.bool false)))), True] gamOK hT h (by kernel_rfl) ⟨hint_bool (decide_eq_false h6), trivial, trivial⟩ ?_
              intro a w h
              refine then_normal ?_
              refine at_test (!((Sh.eqB s51) (D_impl_WithoutHostile x0 x1) (D_spec_WithoutHostile x0 x1))) h (by kernel_rfl) (fun h7 => ?_) (fun h7 => ?_)
              · replace h7 : ((Sh.eqB s51) (D_impl_WithoutHostile x0 x1) (D_spec_WithoutHostile x0 x1)) = false := notT h7
                refine wp_seq ?_
                refine at_regq (T := S_laws_FnExactWithoutHostile_tab) [] { ts := [1, 2, 4, 6, 9], os := [1, 4, 5, 9, 10] } [] gamOK hT h (by kernel_rfl) trivial ?_
                intro a w h
                refine then_normal ?_
                refine wp_ret ?_
                refine then_ret ?_
                exact at_return (S := S_laws_FnExactWithoutHostile) (x := (x0, x1, ())) (false, ()) [] h (by kernel_rfl) trivial (congrArg (fun z => (z, ())) (show (false) = D_laws_FnExactWithoutHostile x0 x1 from by unfold D_laws_FnExactWithoutHostile; exact absurd ((Sh.eqB_iff _).2 (show _ = _ from by first | rfl | (exact withoutHostile_eq _ _))) (neT h7)))
              · replace h7 : ((Sh.eqB s51) (D_impl_WithoutHostile x0 x1) (D_spec_WithoutHostile x0 x1)) = true := notF h7
                refine wp_skip ?_
                refine then_normal ?_
                refine wp_seq ?_
                refine at_regq (T := S_laws_FnExactWithoutHostile_tab) [] { ts := [1, 2, 4, 6, 9, 11], os := [1, 4, 5, 9, 10] } [] gamOK hT h (by kernel_rfl) trivial ?_
                intro a w h
                refine then_normal ?_
                refine wp_seq ?_
                refine at_regq (T := S_laws_FnExactWithoutHostile_tab) [] { ts := [1, 2, 4, 6, 9, 11], os := [1, 4, 5, 9, 10] } [(pMkT s51) (D_impl_WithoutHostile x0 x1) 1] gamOK hT h (by kernel_rfl) ⟨(by (show (0 : Int) ≤ _ ∧ _ + ((Sh.ctT _ _ : Nat) : Int) ≤ (4611686018427387904 : Int); (try simp only [mkK, mkKT, Sh.ctT_mkT, Sh.ct_mk]); constructor <;> omega)), trivial⟩ ?_
                intro a w h
                refine then_normal ?_
                refine wp_seq ?_
                refine at_regq (T := S_laws_FnExactWithoutHostile_tab) [] { ts := [1, 2, 4, 6, 9, 11, 12], os := [1, 4, 5, 9, 10] } [] gamOK hT h (by kernel_rfl) trivial ?_
                intro a w h
                refine then_normal ?_
                refine wp_seq ?_
                refine at_reg (T := S_laws_FnExactWithoutHostile_tab) [] { ts := [1, 2, 4, 6, 9, 11, 12], os := [1, 4, 5, 9, 10] } ⟨[(1, aF (.int 3) x1), (2, aP 1 0), (4, aB false), (6, aP 5 0), (9, aP 10 0), (11, aI ((mkKT s51) (D_impl_WithoutHostile x0 x1) 1)), (12, aI ((heldDT s51) ((Sh.mkT s51) (D_impl_WithoutHostile x0 x1) 1) 1))], [(1, oX 47 [cI x0.1, .ro s171 x0.2]), (4, oR s127 (D_spec_WithoutHostile x0 x1).2), (5, oX 51 [cI (D_spec_WithoutHostile x0 x1).1, .sl 4]), (9, oR s127 ((Sh.mkT s51) (D_impl_WithoutHostile x0 x1) 1).2), (10, oX 51 [cI (D_impl_WithoutHostile x0 x1).1, .sl 9])]⟩ [(pMkT s51) ((Sh.mkT s51) (D_impl_WithoutHostile x0 x1) 1) 1] gamOK hT h (by kernel_rfl) ⟨(by (show (0 : Int) ≤ _ ∧ _ + ((Sh.ctT _ _ : Nat) : Int) ≤ (4611686018427387904 : Int); (try simp only [mkK, mkKT, Sh.ctT_mkT, Sh.ct_mk]); constructor <;> omega)), trivial⟩ ?_
                intro a w h
                refine then_normal ?_
                refine wp_seq ?_
                refine wp_seq ?_
                refine at_regq (T := S_laws_FnExactWithoutHostile_tab) [] { ts := [1, 2, 4, 6, 9, 11, 12, 69], os := [1, 4, 5, 9, 10] } [] gamOK hT h (by kernel_rfl) trivial ?_
                intro a w h
                refine then_normal ?_
                refine at_test (decide (((heldDT s51) ((Sh.mkT s51) (D_impl_WithoutHostile x0 x1) 1) 1) < 0)) h (by kernel_rfl) (fun h8 => ?_) (fun h8 => ?_)
                · replace h8 : ((heldDT s51) ((Sh.mkT s51) (D_impl_WithoutHostile x0 x1) 1) 1) < 0 := of_decide_eq_true h8
                  refine wp_seq ?_
                  refine at_regq (T := S_laws_FnExactWithoutHostile_tab) [] { ts := [1, 2, 4, 6, 9, 11, 12], os := [1, 4, 5, 9, 10] } [] gamOK hT h (by kernel_rfl) trivial ?_
                  intro a w h
                  refine then_normal ?_
                  refine wp_ret ?_
                  refine then_ret ?_
                  exact at_return (S := S_laws_FnExactWithoutHostile) (x := (x0, x1, ())) (false, ()) [] h (by kernel_rfl) trivial (congrArg (fun z => (z, ())) (show (false) = D_laws_FnExactWithoutHostile x0 x1 from by unfold D_laws_FnExactWithoutHostile; (exfalso; simp only [held_marked, held_markedT, mkK, mkKT, Sh.ctT_mkT, Sh.ct_mk] at h8; first | omega | exact h8 trivial | exact h8 rfl)))
                · replace h8 : ¬ (((heldDT s51) ((Sh.mkT s51) (D_impl_WithoutHostile x0 x1) 1) 1) < 0) := of_decide_eq_false h8
                  refine wp_skip ?_
                  refine then_normal ?_
                  refine wp_seq ?_
                  refine wp_seq ?_
                  refine at_regq (T := S_laws_FnExactWithoutHostile_tab) [] { ts := [1, 2, 4, 6, 9, 11, 72], os := [1, 4, 5, 9, 10] } [] gamOK hT h (by kernel_rfl) trivial ?_
                  intro a w h
                  refine then_normal ?_
                  refine at_test (!decide (((heldDT s51) ((Sh.mkT s51) (D_impl_WithoutHostile x0 x1) 1) 1) = ((mkKT s51) (D_impl_WithoutHostile x0 x1) 1))) h (by kernel_rfl) (fun h9 => ?_) (fun h9 => ?_)
                  · replace h9 : ¬ (((heldDT s51) ((Sh.mkT s51) (D_impl_WithoutHostile x0 x1) 1) 1) = ((mkKT s51) (D_impl_WithoutHostile x0 x1) 1)) := by simpa using h9
                    refine wp_seq ?_
                    refine at_regq (T := S_laws_FnExactWithoutHostile_tab) [] { ts := [1, 2, 4, 6, 9, 11], os := [1, 4, 5, 9, 10] } [] gamOK hT h (by kernel_rfl) trivial ?_
                    intro a w h
                    refine then_normal ?_
                    refine wp_ret ?_
                    refine then_ret ?_
                    exact at_return (S := S_laws_FnExactWithoutHostile) (x := (x0, x1, ())) (false, ()) [] h (by kernel_rfl) trivial (congrArg (fun z => (z, ())) (show (false) = D_laws_FnExactWithoutHostile x0 x1 from by unfold D_laws_FnExactWithoutHostile; (exfalso; simp only [held_marked, held_markedT, mkK, mkKT, Sh.ctT_mkT, Sh.ct_mk] at h9; first | omega | exact h9 trivial | exact h9 rfl)))
                  · replace h9 : ((heldDT s51) ((Sh.mkT s51) (D_impl_WithoutHostile x0 x1) 1) 1) = ((mkKT s51) (D_impl_WithoutHostile x0 x1) 1) := by simpa using h9
                    refine wp_skip ?_
                    refine then_normal ?_
                    refine wp_seq ?_
                    refine at_regq (T := S_laws_FnExactWithoutHostile_tab) [{}, { ids := [13] }, {}, { ids := [14] }, { ids := [15] }, { ids := [16] }] { ts := [4, 6, 9, 11, 13], os := [4, 5, 9, 10, 15, 16] } [(pTo s47) x0, (pTo s34) x1, (fun (x0 : T51) (x1 : (List Int)) => Sh.fit s51 x0 ∧ Sh.fit s34 x1) x0 x1] gamOK hT h (by kernel_rfl) ⟨(by (show Sh.sz _ _ ≤ 1048576; omega)), (by (show Sh.sz _ _ ≤ 1048576; omega)), (by exact ⟨(Sh.fit_of_sz s51 rfl (x := x0) (by omega)), (Sh.fit_of_sz s34 rfl (x := x1) (by omega))⟩), trivial⟩ ?_
                    intro a w h
                    refine then_normal ?_
                    refine wp_seq ?_
                    refine wp_seq ?_
                    refine at_reg (T := S_laws_FnExactWithoutHostile_tab) [] { ts := [4, 9, 11, 81], os := [9, 10] } ⟨[(4, aB false), (9, aP 10 0), (11, aI ((mkKT s51) (D_impl_WithoutHostile x0 x1) 1)), (81, aB (!((Sh.eqB s51) (D_impl_WithoutHostile x0 x1) (D_spec_WithoutHostile x0 x1))))], [(9, oR s127 ((Sh.mkT s51) (D_impl_WithoutHostile x0 x1) 1).2), (10, oX 51 [cI (D_impl_WithoutHostile x0 x1).1, .sl 9])]⟩ [True] gamOK hT h (by kernel_rfl) ⟨trivial, trivial⟩ ?_
                    intro a w h
                    refine then_normal ?_
                    refine at_test (!((Sh.eqB s51) (D_impl_WithoutHostile x0 x1) (D_spec_WithoutHostile x0 x1))) h (by kernel_rfl) (fun h10 => ?_) (fun h10 => ?_)
                    · replace h10 : ((Sh.eqB s51) (D_impl_WithoutHostile x0 x1) (D_spec_WithoutHostile x0 x1)) = false := notT h10
                      refine wp_seq ?_
                      refine at_regq (T := S_laws_FnExactWithoutHostile_tab) [] { ts := [4, 9, 11], os := [9, 10] } [] gamOK hT h (by kernel_rfl) trivial ?_
                      intro a w h
                      refine then_normal ?_
                      refine wp_ret ?_
                      refine then_ret ?_
                      exact at_return (S := S_laws_FnExactWithoutHostile) (x := (x0, x1, ())) (false, ()) [] h (by kernel_rfl) trivial (congrArg (fun z => (z, ())) (show (false) = D_laws_FnExactWithoutHostile x0 x1 from by unfold D_laws_FnExactWithoutHostile; exact absurd ((Sh.eqB_iff _).2 (show _ = _ from by first | rfl | (exact withoutHostile_eq _ _))) (neT h10)))
                    · replace h10 : ((Sh.eqB s51) (D_impl_WithoutHostile x0 x1) (D_spec_WithoutHostile x0 x1)) = true := notF h10
                      refine wp_skip ?_
                      refine then_normal ?_
                      refine wp_seq ?_
                      refine at_regq (T := S_laws_FnExactWithoutHostile_tab) [] { ts := [4, 9, 11, 12], os := [9, 10] } [] gamOK hT h (by kernel_rfl) trivial ?_
                      intro a w h
                      refine then_normal ?_
                      refine wp_seq ?_
                      refine at_regq (T := S_laws_FnExactWithoutHostile_tab) [] { ts := [4, 11, 12], os := [] } [(pMkT s51) ((Sh.mkT s51) (D_impl_WithoutHostile x0 x1) 1) 1] gamOK hT h (by kernel_rfl) ⟨(by (show (0 : Int) ≤ _ ∧ _ + ((Sh.ctT _ _ : Nat) : Int) ≤ (4611686018427387904 : Int); (try simp only [mkK, mkKT, Sh.ctT_mkT, Sh.ct_mk]); constructor <;> omega)), trivial⟩ ?_
                      intro a w h
                      refine then_normal ?_
                      refine wp_seq ?_
                      refine wp_seq ?_
                      refine at_regq (T := S_laws_FnExactWithoutHostile_tab) [] { ts := [4, 11, 12, 86], os := [] } [] gamOK hT h (by kernel_rfl) trivial ?_
                      intro a w h
                      refine then_normal ?_
                      refine at_test (decide (((heldDT s51) ((Sh.mkT s51) (D_impl_WithoutHostile x0 x1) 1) 1) < 0)) h (by kernel_rfl) (fun h11 => ?_) (fun h11 => ?_)
                      · replace h11 : ((heldDT s51) ((Sh.mkT s51) (D_impl_WithoutHostile x0 x1) 1) 1) < 0 := of_decide_eq_true h11
                        refine wp_seq ?_
                        refine at_reg (T := S_laws_FnExactWithoutHostile_tab) [] { ts := [4, 11, 12], os := [] } ⟨[(4, aB false), (11, aI ((mkKT s51) (D_impl_WithoutHostile x0 x1) 1)), (12, aI ((heldDT s51) ((Sh.mkT s51) (D_impl_WithoutHostile x0 x1) 1) 1))], []⟩ [] gamOK hT h (by kernel_rfl) trivial ?_
                        intro a w h
                        refine then_normal ?_
                        refine wp_ret ?_
                        refine then_ret ?_
                        exact at_return (S := S_laws_FnExactWithoutHostile) (x := (x0, x1, ())) (false, ()) [] h (by kernel_rfl) trivial (congrArg (fun z => (z, ())) (show (false) = D_laws_FnExactWithoutHostile x0 x1 from by unfold D_laws_FnExactWithoutHostile; (exfalso; simp only [held_marked, held_markedT, mkK, mkKT, Sh.ctT_mkT, Sh.ct_mk] at h11; first | omega | exact h11 trivial | exact h11 rfl)))
                      · replace h11 : ¬ (((heldDT s51) ((Sh.mkT s51) (D_impl_WithoutHostile x0 x1) 1) 1) < 0) := of_decide_eq_false h11
                        refine wp_skip ?_
                        refine then_normal ?_
                        refine wp_seq ?_
                        refine wp_seq ?_
                        refine at_reg (T := S_laws_FnExactWithoutHostile_tab) [] { ts := [4, 89], os := [] } ⟨[(4, aB false), (89, aB (!decide (((heldDT s51) ((Sh.mkT s51) (D_impl_WithoutHostile x0 x1) 1) 1) = ((mkKT s51) (D_impl_WithoutHostile x0 x1) 1))))], []⟩ [] gamOK hT h (by kernel_rfl) trivial ?_
                        intro a w h
                        refine then_normal ?_
                        refine at_test (!decide (((heldDT s51) ((Sh.mkT s51) (D_impl_WithoutHostile x0 x1) 1) 1) = ((mkKT s51) (D_impl_WithoutHostile x0 x1) 1))) h (by kernel_rfl) (fun h12 => ?_) (fun h12 => ?_)
                        · replace h12 : ¬ (((heldDT s51) ((Sh.mkT s51) (D_impl_WithoutHostile x0 x1) 1) 1) = ((mkKT s51) (D_impl_WithoutHostile x0 x1) 1)) := by simpa using h12
                          refine wp_seq ?_
                          refine at_regq (T := S_laws_FnExactWithoutHostile_tab) [] { ts := [4], os := [] } [] gamOK hT h (by kernel_rfl) trivial ?_
                          intro a w h
                          refine then_normal ?_
                          refine wp_ret ?_
                          refine then_ret ?_
                          exact at_return (S := S_laws_FnExactWithoutHostile) (x := (x0, x1, ())) (false, ()) [] h (by kernel_rfl) trivial (congrArg (fun z => (z, ())) (show (false) = D_laws_FnExactWithoutHostile x0 x1 from by unfold D_laws_FnExactWithoutHostile; (exfalso; simp only [held_marked, held_markedT, mkK, mkKT, Sh.ctT_mkT, Sh.ct_mk] at h12; first | omega | exact h12 trivial | exact h12 rfl)))
                        · replace h12 : ((heldDT s51) ((Sh.mkT s51) (D_impl_WithoutHostile x0 x1) 1) 1) = ((mkKT s51) (D_impl_WithoutHostile x0 x1) 1) := by simpa using h12
                          refine wp_skip ?_
                          refine then_normal ?_
                          refine wp_seq ?_
                          refine at_regq (T := S_laws_FnExactWithoutHostile_tab) [] { ts := [4], os := [] } [] gamOK hT h (by kernel_rfl) trivial ?_
                          intro a w h
                          refine then_normal ?_
                          refine wp_ret ?_
                          exact at_return (S := S_laws_FnExactWithoutHostile) (x := (x0, x1, ())) (true, ()) [] h (by kernel_rfl) trivial (congrArg (fun z => (z, ())) (show (true) = D_laws_FnExactWithoutHostile x0 x1 from by unfold D_laws_FnExactWithoutHostile; rfl))

theorem opn3 : OpensS Try.prog 3 (.int 3) := opensS_int Try.underlying3
theorem co3 : Try.prog.cellsOf 3 = 1 := by kernel_rfl
theorem co171 : Try.prog.cellsOf 171 = 3 := by kernel_rfl
theorem opn171 : OpensS Try.prog 171 s171 := by
  intro H enc w base spare held fuel cs x h
  obtain ⟨xs, n, _, _, hl, hlen, hf⟩ := DataW.trod_struct Try.underlying171 h
  obtain ⟨a0, k0, i0⟩ := opensS_field (a := (.int 3)) (i := 0) 0 1 hf hlen rfl rfl rfl co3 opn3
  obtain ⟨a1, k1, i1⟩ := opensS_field (a := (.int 3)) (i := 1) 1 1 hf hlen rfl rfl rfl co3 opn3
  obtain ⟨a2, k2, i2⟩ := opensS_field (a := (.int 3)) (i := 2) 2 1 hf hlen rfl rfl rfl co3 opn3
  rw [co171] at hl
  exact ⟨(a0, (a1, a2)), (rdS_pair (off := 0) k0 (rdS_pair (off := 1) k1 (rdS_last (off := 2) k2 (by omega)))), ⟨i0, ⟨i1, i2⟩⟩⟩
theorem opn45 : OpensS Try.prog 45 s45 := opensS_slice (a := s171) Try.underlying45 co171 opn171
theorem co45 : Try.prog.cellsOf 45 = 1 := by kernel_rfl
theorem co47 : Try.prog.cellsOf 47 = 2 := by kernel_rfl
theorem opn47 : OpensS Try.prog 47 s47 := by
  intro H enc w base spare held fuel cs x h
  obtain ⟨xs, n, _, _, hl, hlen, hf⟩ := DataW.trod_struct Try.underlying47 h
  obtain ⟨a0, k0, i0⟩ := opensS_field (a := (.int 3)) (i := 0) 0 1 hf hlen rfl rfl rfl co3 opn3
  obtain ⟨a1, k1, i1⟩ := opensS_field (a := s45) (i := 1) 1 1 hf hlen rfl rfl rfl co45 opn45
  rw [co47] at hl
  exact ⟨(a0, a1), (rdS_pair (off := 0) k0 (rdS_last (off := 1) k1 (by omega))), ⟨i0, i1⟩⟩
theorem opn34 : OpensS Try.prog 34 s34 := opensS_slice (a := (.int 3)) Try.underlying34 co3 opn3
namespace fnExactWithoutHostile
open Go.ChangeShapes Go.WideShapes Go.ChangeAt Go.RowKit
theorem own : ownKnob Try.prog.godebug = none := by kernel_rfl
theorem laidOut : laidOutB Try.prog = true := by kernel_rfl
set_option maxRecDepth 100000 in
theorem lifted (os : Os) (started : os.Started) (H : Type) (enc : TypeId × Value → H) :
    ReturnsInHanded {} Try.checked os 5 .any (Rows.fnExactWithoutHostileSpec.pre6 enc Try.prog Try.f5 Rows.fnExactWithoutHostileRow.domain false) (Rows.fnExactWithoutHostileSpec.post enc Try.prog Try.f5 false true false false) := by
  refine returnsInHanded_of_change (C := Try.checked) own started (by kernel_rfl) Try.func5
    (ChangeSpec.witness6 (enc := enc) (C := Try.checked) false ⟨#[], #[.agg #[.int .i64 0, .slice none 0 0], .slice none 0 0], []⟩ 8 (by kernel_rfl) (by kernel_rfl) (by kernel_rfl) (by kernel_rfl)) ?_
  intro W base args ds gs before hval0 hW hcnd _
  have hval : ∀ (j : Nat) t v, Try.f5.params[j]? = some t → args[j]? = some v → Value.okWide Try.prog W .any base t v := hval0
  have hW' := hW
  obtain ⟨p, q, hA0, hV, rfl, hfz, hnd⟩ := hW
  have hA : DataW.TrodAll enc Try.prog W 0 (fun _ => true) true Try.f5.params.toList args.toList ds p := hA0
  rw [Try.params5] at hA hval
  obtain ⟨v0, vs0, d0, ds0, p0, q0, hargs, rfl, rfl, h0, r0⟩ := trodAll_cons hA
  obtain ⟨v1, vs1, d1, ds1, p1, q1, rfl, rfl, rfl, h1, r1⟩ := trodAll_cons r0
  obtain ⟨rfl, rfl, rfl⟩ := trodAll_nil r1
  obtain rfl : args = #[v0, v1] := by cases args; simp_all
  obtain ⟨rfl, rfl⟩ := trodVars_none hV
  have k0 := h0
  have lt0 : ∀ x ∈ p0, x.block < W.heap.size := by obtain ⟨m, hm⟩ := k0; exact DataW.trod_lt m _ _ _ hm
  obtain ⟨cs0, rfl, _⟩ := okWide_struct Try.underlying47 (hval 0 47 v0 rfl rfl)
  obtain ⟨cs0⟩ := cs0
  obtain ⟨x0, hx0, i0⟩ : ∃ x : (s47).D, (s47).rd W (fun b => b < W.heap.size) cs0 x ∧ (s47).i64 x := by obtain ⟨fuel, hf⟩ := h0; exact opn47 hf
  have k1 := h1
  have lt1 : ∀ x ∈ p1, x.block < W.heap.size := by obtain ⟨m, hm⟩ := k1; exact DataW.trod_lt m _ _ _ hm
  obtain ⟨ad1, len1, cap1, rfl⟩ := okWide_slice Try.underlying34 (hval 1 34 v1 rfl rfl)
  obtain ⟨x1, hx1, i1⟩ : ∃ x : (s34).D, (s34).rd W (fun b => b < W.heap.size) [.slice ad1 len1 cap1] x ∧ (s34).i64 x := by obtain ⟨fuel, hf⟩ := h1; exact opn34 hf
  clear hA0 hval0
  refine (calls_law S_laws_FnExactWithoutHostile_ok (by kernel_rfl) W (fun b => b < W.heap.size) [.agg cs0.toArray, .slice ad1 len1 cap1] (x0, x1, ()) (fun _ h => h) ⟨argRd_st hx0, argRd_sl hx1, trivial⟩ ⟨i0, i1⟩).mono fun e W' hr => ?_
  obtain ⟨he, bel⟩ := ret_bool hr
  subst he
  exact ⟨_, rfl, _, _, _, [], _, [], hW', trodAll_mk1 (shut_bool Try.underlying4 _), (trodAll_cons_mk (Below.trod laidOut (by kernel_rfl) (of_decide_eq_true (by kernel_rfl)) k0 bel lt0) (trodAll_cons_mk (Below.trod laidOut (by kernel_rfl) (of_decide_eq_true (by kernel_rfl)) k1 bel lt1) trodAll_mk0)), rfl, bel.frame _, fun h => by cases h⟩
theorem over : Rows.fnExactWithoutHostileRow.holds Try.pinned (OpenSpec.ofChange Rows.fnExactWithoutHostileSpec) :=
  OpenClaim.holds_of_wide 5 Try.f5 rfl rfl rfl rfl rfl rfl rfl ⟨rfl, rfl, rfl, rfl, rfl⟩ rfl rfl rfl rfl rfl (by kernel_rfl) Try.func5 (by kernel_rfl)
    (of_decide_eq_true (by kernel_rfl)) (by unfold Func.isWrapper; first | (rw [if_pos (by decide +kernel)]; kernel_rfl) | (rw [if_neg (by decide +kernel)]; exact ⟨rfl, rfl⟩))
    (fun os started H enc _ => lifted os started H enc)
/-- the statement -/
theorem proved : Rows.FnExactWithoutHostileSaid := over
end fnExactWithoutHostile

end Go.Proofs.Ytfbogeakgmickaa

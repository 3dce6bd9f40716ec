/- The walks of the functions that the law reaches: each summary holds. No condition. -/
import Derived.Test.YtfbogeakgmickaaPY
import Derived.Test.YtfbogeakgmickaaProg
namespace Go.Proofs.Ytfbogeakgmickaa
open Go.RowKit
set_option linter.unusedVariables false
set_option linter.unusedSimpArgs false
abbrev s114 : Sh := .st 114 (.pair (.int 3) (.pair (.int 3) (.int 3)))
abbrev T114 : Type := (Int × (Int × Int))
abbrev s34 : Sh := .sl 34 (.int 3)
abbrev s38 : Sh := .st 38 (.pair (.int 3) (.pair s34 s34))
abbrev T38 : Type := (Int × ((List Int) × (List Int)))
abbrev s146 : Sh := .sl 146 s38
abbrev s148 : Sh := .st 148 (.pair (.int 3) (.pair (.int 3) (.pair (.int 3) (.pair s146 (.int 3)))))
abbrev T148 : Type := (Int × (Int × (Int × ((List T38) × Int))))
abbrev s90 : Sh := .sl 90 s148
abbrev s92 : Sh := .st 92 (.pair (.int 3) s90)
abbrev T92 : Type := (Int × (List T148))
abbrev s36 : Sh := .st 36 (.pair (.int 3) (.pair s34 s34))
abbrev T36 : Type := (Int × ((List Int) × (List Int)))
abbrev s178 : Sh := .sl 178 s36
abbrev s180 : Sh := .st 180 (.pair (.int 3) (.pair (.int 3) (.pair (.int 3) (.pair s178 (.int 3)))))
abbrev T180 : Type := (Int × (Int × (Int × ((List T36) × Int))))
abbrev s85 : Sh := .sl 85 s180
abbrev s87 : Sh := .st 87 (.pair (.int 3) s85)
abbrev T87 : Type := (Int × (List T180))
def gam : Gam := [(34, (.int 3), 8), (26, s114, 24), (146, s38, 56), (90, s148, 56)]
theorem gamOK : GamOK Try.prog gam := (.cons (Elem.of (.int .i64 0) Try.underlying34 (by kernel_rfl) rfl (by decide) (by decide)) (.cons (Elem.of (.agg #[(.int .i64 0), (.int .i64 0), (.int .i64 0)]) Try.underlying26 (by kernel_rfl) rfl (by decide) (by decide)) (.cons (Elem.of (.agg #[(.int .i64 0), (.slice none 0 0), (.slice none 0 0)]) Try.underlying146 (by kernel_rfl) rfl (by decide) (by decide)) (.cons (Elem.of (.agg #[(.int .i64 0), (.int .i64 0), (.int .i64 0), (.slice none 0 0), (.int .i64 0)]) Try.underlying90 (by kernel_rfl) rfl (by decide) (by decide)) .nil))))
theorem mixed : Try.prog.follows .mixedOrders = true := by kernel_rfl

def inR (n lo hi : Int) : Bool := decide (lo ≤ n ∧ n ≤ hi)
theorem inR_t {n a b : Int} (h : inR n a b = true) : a ≤ n ∧ n ≤ b := of_decide_eq_true h
theorem inR_f {n a b : Int} (h : inR n a b = false) : n < a ∨ b < n := by have := of_decide_eq_false h; omega
theorem inR_true {n a b : Int} (h : a ≤ n ∧ n ≤ b) : inR n a b = true := decide_eq_true h
theorem inR_false {n a b : Int} (h : ¬ (a ≤ n ∧ n ≤ b)) : inR n a b = false := decide_eq_false h
def lenOK {α : Type} (xs : List α) : Prop := xs.length ≤ 1073741824
def idL {α : Type} (xs : List α) : List α := xs
section
variable {α β : Type}
/-- none of the first i -/
def noneTo (p : α → Bool) (xs : List α) (z : α) (i : Nat) : Prop := ∀ j, j < i → p (xs.getD j z) = false
def idxF (p : α → Bool) : List α → Int
  | [] => -1
  | x :: l => if p x = true then 0 else if idxF p l < 0 then -1 else idxF p l + 1
theorem noneTo_zero {p : α → Bool} {xs : List α} {z : α} : noneTo p xs z 0 := fun j h => by omega
theorem noneTo_succ {p : α → Bool} {xs : List α} {z : α} {i : Nat} (h : noneTo p xs z i) (k : p (xs.getD i z) = false) : noneTo p xs z (i + 1) := fun j hj => by
  by_cases e : j = i
  · subst e; exact k
  · exact h j (by omega)
theorem idxF_at {p : α → Bool} {z : α} : ∀ {xs : List α} {i : Nat}, i < xs.length → noneTo p xs z i → p (xs.getD i z) = true → idxF p xs = i
  | [], _, h, _, _ => by simp at h
  | x :: l, 0, _, _, k => by
    have k : p x = true := k
    simp [idxF, k]
  | x :: l, i + 1, h, hn, k => by
    have h0 : p x = false := hn 0 (by omega)
    have := idxF_at (xs := l) (i := i) (by simpa using h) (fun j hj => by have := hn (j + 1) (by omega); simpa using this) (by simpa using k)
    simp only [idxF, h0, this]
    rw [if_neg (by decide), if_neg (by omega)]
    omega
theorem idxF_none {p : α → Bool} {z : α} : ∀ {xs : List α} {i : Nat}, xs.length ≤ i → noneTo p xs z i → idxF p xs = -1
  | [], _, _, _ => rfl
  | x :: l, 0, h, _ => by simp at h
  | x :: l, i + 1, h, hn => by
    have h0 : p x = false := hn 0 (by omega)
    have := idxF_none (xs := l) (i := i) (by simpa using h) (fun j hj => by have := hn (j + 1) (by omega); simpa using this)
    simp [idxF, h0, this]
theorem idxF_pos {p : α → Bool} : ∀ {xs : List α}, 0 ≤ idxF p xs ↔ xs.any p = true
  | [] => by simp [idxF]
  | x :: l => by
    have := idxF_pos (xs := l) (p := p)
    simp only [idxF, List.any_cons, Bool.or_eq_true, ← this]
    by_cases hx : p x = true
    · simp [hx]
    · rw [if_neg hx]
      split
      · rename_i h; constructor
        · intro h'; omega
        · rintro (h' | h')
          · exact absurd h' hx
          · omega
      · rename_i h; constructor
        · intro h'; right; omega
        · intro _; omega
theorem idxF_any {p : α → Bool} {xs : List α} : decide (idxF p xs ≥ 0) = xs.any p := by
  rw [Bool.eq_iff_iff, decide_eq_true_iff]; exact idxF_pos
/-- the first i alike -/
def allTo2 (e : α → β → Bool) (xs : List α) (ys : List β) (z : α) (y : β) (i : Nat) : Prop := ∀ j, j < i → e (xs.getD j z) (ys.getD j y) = true
def eqF (e : α → β → Bool) : List α → List β → Bool
  | [], [] => true
  | x :: l, y :: l' => e x y && eqF e l l'
  | _, _ => false
theorem allTo2_zero {e : α → β → Bool} {xs : List α} {ys : List β} {z : α} {y : β} : allTo2 e xs ys z y 0 := fun j h => by omega
theorem allTo2_succ {e : α → β → Bool} {xs : List α} {ys : List β} {z : α} {y : β} {i : Nat} (h : allTo2 e xs ys z y i) (k : e (xs.getD i z) (ys.getD i y) = true) : allTo2 e xs ys z y (i + 1) := fun j hj => by
  by_cases e : j = i
  · subst e; exact k
  · exact h j (by omega)
theorem eqF_len {e : α → β → Bool} : ∀ {xs : List α} {ys : List β}, xs.length ≠ ys.length → eqF e xs ys = false
  | [], [], h => absurd rfl h
  | [], _ :: _, _ => rfl
  | _ :: _, [], _ => rfl
  | _ :: l, _ :: l', h => by simp only [eqF]; rw [eqF_len (xs := l) (ys := l') (by simpa using h), Bool.and_false]
theorem eqF_at {e : α → β → Bool} {z : α} {y : β} : ∀ {xs : List α} {ys : List β} {i : Nat}, i < xs.length → i < ys.length → e (xs.getD i z) (ys.getD i y) = false → eqF e xs ys = false
  | x :: l, y' :: l', 0, _, _, h => by
    have h : e x y' = false := h
    simp [eqF, h]
  | x :: l, y' :: l', i + 1, h1, h2, h => by simp only [eqF]; rw [eqF_at (xs := l) (ys := l') (i := i) (by simpa using h1) (by simpa using h2) (by simpa using h), Bool.and_false]
  | [], _, _, h1, _, _ => by simp at h1
  | _ :: _, [], _, _, h2, _ => by simp at h2
theorem eqF_all {e : α → β → Bool} {z : α} {y : β} : ∀ {xs : List α} {ys : List β} {i : Nat}, xs.length = ys.length → xs.length ≤ i → allTo2 e xs ys z y i → eqF e xs ys = true
  | [], [], _, _, _, _ => rfl
  | [], _ :: _, _, h, _, _ => by simp at h
  | _ :: _, [], _, h, _, _ => by simp at h
  | x :: l, y' :: l', 0, _, h, _ => by simp at h
  | x :: l, y' :: l', i + 1, h, hi, ha => by
    have h0 : e x y' = true := ha 0 (by omega)
    simp only [eqF]
    rw [h0, eqF_all (xs := l) (ys := l') (i := i) (by simpa using h) (by simpa using hi) (fun j hj => by have := ha (j + 1) (by omega); simpa using this)]
    rfl
/-- all of the first i -/
def allTo1 (p : α → Bool) (xs : List α) (z : α) (i : Nat) : Prop := ∀ j, j < i → p (xs.getD j z) = true
theorem allTo1_zero {p : α → Bool} {xs : List α} {z : α} : allTo1 p xs z 0 := fun j h => by omega
theorem allTo1_succ {p : α → Bool} {xs : List α} {z : α} {i : Nat} (h : allTo1 p xs z i) (k : p (xs.getD i z) = true) : allTo1 p xs z (i + 1) := fun j hj => by
  by_cases e : j = i
  · subst e; exact k
  · exact h j (by omega)
theorem all_at {p : α → Bool} {xs : List α} {z : α} {i : Nat} (h : i < xs.length) (k : p (xs.getD i z) = false) : xs.all p = false := by
  rw [Bool.eq_false_iff]; intro ha
  have := List.all_eq_true.1 ha _ (getD_mem (z := z) h)
  rw [k] at this; cases this
theorem all_of {p : α → Bool} {xs : List α} {z : α} {i : Nat} (h : xs.length ≤ i) (k : allTo1 p xs z i) : xs.all p = true := by
  rw [List.all_eq_true]; intro x hx
  obtain ⟨j, hj, rfl⟩ := List.getElem_of_mem hx
  have := k j (by omega)
  rwa [getD_of_lt hj] at this
/-- folded so far -/
def foldTo (f : β → α → β) (b : β) (xs : List α) (i : Nat) : β := (xs.take i).foldl f b
theorem foldTo_zero {f : β → α → β} {b : β} {xs : List α} : foldTo f b xs 0 = b := rfl
theorem foldTo_succ {f : β → α → β} {b : β} {xs : List α} {i : Nat} (z : α) (h : i < xs.length) : foldTo f b xs (i + 1) = f (foldTo f b xs i) (xs.getD i z) := by
  unfold foldTo; rw [take_snoc (z := z) h, List.foldl_append]; rfl
theorem foldTo_all {f : β → α → β} {b : β} {xs : List α} {i : Nat} (h : xs.length ≤ i) : foldTo f b xs i = xs.foldl f b := by unfold foldTo; rw [take_all h]
end
theorem beqT {a b : Bool} (h : a = b) : (a == b) = true := by subst h; simp
theorem notF' {b : Bool} (h : b = false) : (!b) = true := by rw [h]; rfl
theorem notT' {b : Bool} (h : b = true) : (!b) = false := by rw [h]; rfl
section
variable {α β : Type}
theorem any_at {p : α → Bool} {xs : List α} {z : α} {i : Nat} (h : i < xs.length) (k : p (xs.getD i z) = true) : xs.any p = true := List.any_eq_true.2 ⟨_, getD_mem h, k⟩
theorem any_of {p : α → Bool} {xs : List α} {z : α} {i : Nat} (h : xs.length ≤ i) (k : noneTo p xs z i) : xs.any p = false := by
  rw [Bool.eq_false_iff]; intro ha
  obtain ⟨x, hx, hp⟩ := List.any_eq_true.1 ha
  obtain ⟨j, hj, rfl⟩ := List.getElem_of_mem hx
  have := k j (by omega)
  rw [getD_of_lt hj, hp] at this; cases this
/-- P holds of all below n -/
def allN (P : Nat → Bool) : Nat → Bool
  | 0 => true
  | n + 1 => allN P n && P n
theorem allN_succ {P : Nat → Bool} {i : Nat} (h : allN P i = true) (k : P i = true) : allN P (i + 1) = true := by simp [allN, h, k]
theorem allN_iff {P : Nat → Bool} : ∀ {n : Nat}, allN P n = true ↔ ∀ j, j < n → P j = true
  | 0 => by simp [allN]
  | n + 1 => by
    simp only [allN, Bool.and_eq_true, allN_iff (n := n)]
    constructor
    · rintro ⟨h1, h2⟩ j hj
      by_cases e : j = n
      · rw [e]; exact h2
      · exact h1 j (by omega)
    · intro h; exact ⟨fun j hj => h j (by omega), h n (by omega)⟩
theorem allN_eq {P : Nat → Bool} {i n : Nat} (h : n ≤ i) (h' : i ≤ n) (k : allN P i = true) : allN P n = true := by rw [show n = i by omega]; exact k
theorem allN_at {P : Nat → Bool} {i n : Nat} (h : i < n) (k : P i = false) : allN P n = false := by
  rw [Bool.eq_false_iff]; intro ha
  rw [allN_iff.1 ha i h] at k; cases k
theorem map_snoc {f : α → β} {xs : List α} {i : Nat} {z : α} (h : i < xs.length) : (xs.take (i + 1)).map f = (xs.take i).map f ++ [f (xs.getD i z)] := by rw [take_snoc (z := z) h, List.map_append]; rfl
theorem filter_snoc_t {p : α → Bool} {xs : List α} {i : Nat} {z : α} (h : i < xs.length) (k : p (xs.getD i z) = true) : (xs.take (i + 1)).filter p = (xs.take i).filter p ++ [xs.getD i z] := by rw [take_snoc (z := z) h, List.filter_append, List.filter_cons_of_pos k]; rfl
theorem filter_snoc_f {p : α → Bool} {xs : List α} {i : Nat} {z : α} (h : i < xs.length) (k : p (xs.getD i z) = false) : (xs.take (i + 1)).filter p = (xs.take i).filter p := by rw [take_snoc (z := z) h, List.filter_append, List.filter_cons_of_neg (by rw [k]; decide)]; simp
theorem len_filter_take {p : α → Bool} {xs : List α} (i : Nat) : ((xs.take i).filter p).length ≤ xs.length := Nat.le_trans (List.length_filter_le _ _) (by simp; omega)
theorem len_take_le {xs : List α} (i : Nat) : (xs.take i).length ≤ xs.length := by simp; omega
end
theorem any_not {α : Type} (p : α → Bool) (xs : List α) : (xs.any fun e => !p e) = !(xs.all p) := by
  induction xs with
  | nil => rfl
  | cons x l ih => rw [List.any_cons, List.all_cons, ih, Bool.not_and]
theorem allEq_comm : ∀ (a b : List Int), allEq a b = allEq b a
  | [], [] => rfl
  | [], _ :: _ => rfl
  | _ :: _, [] => rfl
  | a :: l, b :: l' => by simp only [allEq, allEq_comm l l']; rw [show decide (a = b) = decide (b = a) from by rw [decide_eq_decide]; exact eq_comm]

def S_slices_Clone_S_int_int_ : Sum := { fid := 138, dom := [s34], cod := [s34], dp := true, fz := false, pre := fun x => (lenOK (α := Int)) x.1, g := fun x => (((idL (α := Int)) x.1), ()) }
def S_slices_Clone_S_int_int__tab : List (Nat × Sum) := []
theorem S_slices_Clone_S_int_int__ok : FnOK Try.prog 138 S_slices_Clone_S_int_int_ := by
  refine at_enter 8 (fun x => ⟨[(0, aF (.int 3) x.1)], []⟩) Try.func138 rfl (by kernel_rfl) (fun x => rfl) ?_
  rintro w0 Z0 ⟨x0, u⟩ a w
  revert x0
  intro (x0 : (List Int)) hpre hlens h
  replace h : At w0 Z0 [] 8 ⟨[(0, aF (.int 3) x0)], []⟩ a w := h
  replace hpre : (lenOK (α := Int)) x0 := hpre
  have hl1 : List.length x0 ≤ 9223372036854775807 := hlens.1.1
  have hT : TabOK Try.prog S_slices_Clone_S_int_int__tab := .nil
  have hp : List.length x0 ≤ 1073741824 := hpre
  refine wp_seq ?_
  refine at_regq (T := S_slices_Clone_S_int_int__tab) [] { ts := [0, 2], os := [] } [] gamOK hT h (by kernel_rfl) trivial ?_
  intro a w h
  refine then_normal ?_
  refine wp_seq ?_
  refine wp_seq ?_
  refine at_regq (T := S_slices_Clone_S_int_int__tab) [] { ts := [0, 2, 4], os := [] } [] gamOK hT h (by kernel_rfl) trivial ?_
  intro a w h
  refine then_normal ?_
  refine at_nil (List.length x0) h (by kernel_rfl) (fun h1 => ?_) ?_
  · skip
    refine wp_seq ?_
    refine at_regq (T := S_slices_Clone_S_int_int__tab) [] { ts := [0, 2], os := [] } [] gamOK hT h (by kernel_rfl) trivial ?_
    intro a w h
    refine then_normal ?_
    refine wp_ret ?_
    refine then_ret ?_
    exact at_return (S := S_slices_Clone_S_int_int_) (x := (x0, ())) (([] : List Int), ()) [] h (by kernel_rfl) trivial (congrArg (fun z => (z, ())) (show (([] : List Int)) = (idL (α := Int)) x0 from by (show [] = x0; exact (List.eq_nil_of_length_eq_zero h1).symm)))
  · skip
    refine wp_skip ?_
    refine then_normal ?_
    refine wp_seq ?_
    refine at_regq (T := S_slices_Clone_S_int_int__tab) [{ ids := [1] }, {}, { ids := [2] }] { ts := [2], os := [2] } [(List.length ([] : List Int) + List.length x0) * 8 ≤ 140737488355328] gamOK hT h (by kernel_rfl) ⟨(by first | omega | (simp only [List.length_append, List.length_cons, List.length_nil, List.length_set, List.length_take, List.length_drop, List.length_replicate, List.length_map, Nat.min_def]; omega) | (simp; done) | (simp; omega) | done), trivial⟩ ?_
    intro a w h
    refine then_normal ?_
    refine wp_ret ?_
    exact at_return (S := S_slices_Clone_S_int_int_) (x := (x0, ())) ((([] : List Int) ++ x0), ()) [] h (by kernel_rfl) trivial (congrArg (fun z => (z, ())) (show ((([] : List Int) ++ x0)) = (idL (α := Int)) x0 from by (show [] ++ x0 = x0; rfl)))


def pTrue {α : Type} (_ : α) : Prop := True




def S_laws_eqIntS : Sum := { fid := 35, dom := [s34, s34], cod := [(.bool 4)], dp := true, fz := false, pre := fun x => True, g := fun x => (((Sh.eqB s34) x.1 x.2.1), ()) }
def S_laws_eqIntS_tab : List (Nat × Sum) := []
theorem S_laws_eqIntS_ok : FnOK Try.prog 35 S_laws_eqIntS := by
  refine at_enter 26 (fun x => ⟨[(0, aF (.int 3) x.1), (1, aF (.int 3) x.2.1)], []⟩) Try.func35 rfl (by kernel_rfl) (fun x => rfl) ?_
  rintro w0 Z0 ⟨x0, x1, u⟩ a w
  revert x0 x1
  intro (x0 : (List Int)) (x1 : (List Int)) hpre hlens h
  replace h : At w0 Z0 [] 26 ⟨[(0, aF (.int 3) x0), (1, aF (.int 3) x1)], []⟩ a w := h
  have hl1 : List.length x0 ≤ 9223372036854775807 := hlens.1.1
  have hl2 : List.length x1 ≤ 9223372036854775807 := hlens.2.1.1
  have hT : TabOK Try.prog S_laws_eqIntS_tab := .nil
  refine wp_seq ?_
  refine at_regq (T := S_laws_eqIntS_tab) [] { ts := [0, 1, 4], os := [] } [] gamOK hT h (by kernel_rfl) trivial ?_
  intro a w h
  refine then_normal ?_
  refine wp_seq ?_
  refine wp_seq ?_
  refine at_regq (T := S_laws_eqIntS_tab) [] { ts := [0, 1, 4, 10], os := [] } [] gamOK hT h (by kernel_rfl) trivial ?_
  intro a w h
  refine then_normal ?_
  refine at_test (!decide (((List.length x0 : Nat) : Int) = ((List.length x1 : Nat) : Int))) h (by kernel_rfl) (fun h1 => ?_) (fun h1 => ?_)
  · replace h1 : ¬ (((List.length x0 : Nat) : Int) = ((List.length x1 : Nat) : Int)) := by simpa using h1
    refine wp_seq ?_
    refine at_regq (T := S_laws_eqIntS_tab) [] { ts := [0, 1, 4], os := [] } [] gamOK hT h (by kernel_rfl) trivial ?_
    intro a w h
    refine then_normal ?_
    refine wp_ret ?_
    refine then_ret ?_
    exact at_return (S := S_laws_eqIntS) (x := (x0, x1, ())) (false, ()) [] h (by kernel_rfl) trivial (congrArg (fun z => (z, ())) (show (false) = (Sh.eqB s34) x0 x1 from by exact (Sh.eqB_ne (fun e => h1 (by rw [e]))).symm))
  · replace h1 : ((List.length x0 : Nat) : Int) = ((List.length x1 : Nat) : Int) := by simpa using h1
    refine wp_skip ?_
    refine then_normal ?_
    refine wp_seq ?_
    refine wp_seq ?_
    refine at_regq (T := S_laws_eqIntS_tab) [] { ts := [0, 1, 4, 5], os := [] } [] gamOK hT h (by kernel_rfl) trivial ?_
    intro a w h
    refine then_normal ?_
    refine wp_block ?_
    replace h := at_out (σ' := ⟨[(0, aF (.int 3) x0), (1, aF (.int 3) x1), (4, aB false), (5, aI 0)], []⟩) { ts := [0, 1, 4, 5], os := [] } h (by kernel_rfl)
    refine at_loop (fun i : Nat => (⟨[(0, aF (.int 3) x0), (1, aF (.int 3) x1), (4, aB false), (5, aI ((i : Nat) : Int))], []⟩ : St)) (fun i => (i ≤ List.length x0 ∧ x0.take i = x1.take i)) (fun i => List.length x0 - i) (0) h (st_congr1 (fun (d0 : Int) => (⟨[(0, aF (.int 3) x0), (1, aF (.int 3) x1), (4, aB false), (5, aI d0)], []⟩ : St)) (show (0 : Int) = (((0) : Nat) : Int) from by first | rfl | (rfl))) (by exact ⟨Nat.zero_le _, rfl⟩) ?_
    intro i a w hok0 h
    refine wp_seq ?_
    refine wp_seq ?_
    refine at_reg (T := S_laws_eqIntS_tab) [] { ts := [0, 1, 4, 5, 14], os := [] } ⟨[(0, aF (.int 3) x0), (1, aF (.int 3) x1), (4, aB false), (5, aI ((i : Nat) : Int)), (14, aB (decide (((i : Nat) : Int) < ((List.length x0 : Nat) : Int))))], []⟩ [] gamOK hT h (by kernel_rfl) trivial ?_
    intro a w h
    refine then_normal ?_
    refine at_test (decide (((i : Nat) : Int) < ((List.length x0 : Nat) : Int))) h (by kernel_rfl) (fun h2 => ?_) (fun h2 => ?_)
    · replace h2 : ((i : Nat) : Int) < ((List.length x0 : Nat) : Int) := of_decide_eq_true h2
      refine wp_skip ?_
      refine then_normal ?_
      refine wp_seq ?_
      refine wp_block ?_
      refine wp_seq ?_
      refine at_anyq (T := S_laws_eqIntS_tab) [{}, {}, {}, {}, {}, {}, {}, {}, {}] { ts := [0, 1, 4, 5, 25], os := [] } [(0 : Int) ≤ ((i : Nat) : Int) ∧ ((i : Nat) : Int) < ((List.length x0 : Nat) : Int), (0 : Int) ≤ ((i : Nat) : Int) ∧ ((i : Nat) : Int) < ((List.length x1 : Nat) : Int)] gamOK hT mixed h (by kernel_rfl) ⟨(by refine ⟨?_, ?_⟩ <;> (first | omega | (simp only [List.length_append, List.length_cons, List.length_nil, List.length_set, List.length_take, List.length_drop, List.length_replicate, List.length_map, Nat.min_def]; omega) | (simp; done) | (simp; omega) | done)), (by refine ⟨?_, ?_⟩ <;> (first | omega | (simp only [List.length_append, List.length_cons, List.length_nil, List.length_set, List.length_take, List.length_drop, List.length_replicate, List.length_map, Nat.min_def]; omega) | (simp; done) | (simp; omega) | done)), trivial⟩ ?_
      intro a w h
      refine then_normal ?_
      refine at_test (!decide ((x0.getD i 0) = (x1.getD i 0))) h (by kernel_rfl) (fun h3 => ?_) (fun h3 => ?_)
      · replace h3 : ¬ ((x0.getD i 0) = (x1.getD i 0)) := by simpa using h3
        refine wp_seq ?_
        refine at_regq (T := S_laws_eqIntS_tab) [] { ts := [0, 1, 4, 5], os := [] } [] gamOK hT h (by kernel_rfl) trivial ?_
        intro a w h
        refine then_normal ?_
        refine wp_ret ?_
        refine in_ret ?_
        refine then_ret ?_
        refine then_ret ?_
        refine in_ret ?_
        refine then_ret ?_
        exact at_return (S := S_laws_eqIntS) (x := (x0, x1, ())) (false, ()) [] h (by kernel_rfl) trivial (congrArg (fun z => (z, ())) (show (false) = (Sh.eqB s34) x0 x1 from by exact (Sh.eqB_ne (s := s34) (fun e => h3 (by rw [e]))).symm))
      · replace h3 : (x0.getD i 0) = (x1.getD i 0) := by simpa using h3
        refine wp_skip ?_
        refine in_normal ?_
        refine then_normal ?_
        refine at_regq (T := S_laws_eqIntS_tab) [{}, { nw := true }] { ts := [0, 1, 4, 5], os := [] } [I64 (((i : Nat) : Int) + 1)] gamOK hT h (by kernel_rfl) ⟨⟨by first | omega | (simp only [List.length_append, List.length_cons, List.length_nil, List.length_set, List.length_take, List.length_drop, List.length_replicate, List.length_map, Nat.min_def]; omega) | (simp; done) | (simp; omega) | done, by first | omega | (simp only [List.length_append, List.length_cons, List.length_nil, List.length_set, List.length_take, List.length_drop, List.length_replicate, List.length_map, Nat.min_def]; omega) | (simp; done) | (simp; omega) | done⟩, trivial⟩ ?_
        intro a w h
        replace h := at_out (σ' := ⟨[(0, aF (.int 3) x0), (1, aF (.int 3) x1), (4, aB false), (5, aI (((i : Nat) : Int) + 1))], []⟩) { ts := [0, 1, 4, 5], os := [] } h (by kernel_rfl)
        exact ⟨i + 1, at_eq h (st_congr1 (fun (d0 : Int) => (⟨[(0, aF (.int 3) x0), (1, aF (.int 3) x1), (4, aB false), (5, aI d0)], []⟩ : St)) (show (((i : Nat) : Int) + 1 : Int) = (((i + 1) : Nat) : Int) from by first | rfl | (omega))), (by exact ⟨by omega, eqTo_step (z := 0) (by omega) (by omega) hok0.2 h3⟩), (by omega)⟩
    · replace h2 : ¬ (((i : Nat) : Int) < ((List.length x0 : Nat) : Int)) := of_decide_eq_false h2
      refine wp_exit ?_
      refine then_exit ?_
      refine then_exit ?_
      refine in_hit ?_
      refine then_normal ?_
      refine wp_seq ?_
      refine at_regq (T := S_laws_eqIntS_tab) [] { ts := [4], os := [] } [] gamOK hT h (by kernel_rfl) trivial ?_
      intro a w h
      refine then_normal ?_
      refine wp_ret ?_
      exact at_return (S := S_laws_eqIntS) (x := (x0, x1, ())) (true, ()) [] h (by kernel_rfl) trivial (congrArg (fun z => (z, ())) (show (true) = (Sh.eqB s34) x0 x1 from by (have e := hok0.2; rw [take_all (by omega), take_all (by omega)] at e; exact ((Sh.eqB_iff s34).2 e).symm)))

def S_laws_eqCodedPacket : Sum := { fid := 26, dom := [s38, s38], cod := [(.bool 4)], dp := true, fz := false, pre := fun x => True, g := fun x => (((Sh.eqB s38) x.1 x.2.1), ()) }
def S_laws_eqCodedPacket_tab : List (Nat × Sum) := [(35, S_laws_eqIntS)]
theorem S_laws_eqCodedPacket_ok : FnOK Try.prog 26 S_laws_eqCodedPacket := by
  refine at_enter 22 (fun x => ⟨[(0, aG [cI x.1.1, .ro (.int 3) x.1.2.1, .ro (.int 3) x.1.2.2]), (1, aG [cI x.2.1.1, .ro (.int 3) x.2.1.2.1, .ro (.int 3) x.2.1.2.2])], []⟩) Try.func26 rfl (by kernel_rfl) (fun x => rfl) ?_
  rintro w0 Z0 ⟨x0, x1, u⟩ a w
  revert x0 x1
  intro (x0 : T38) (x1 : T38) hpre hlens h
  replace h : At w0 Z0 [] 22 ⟨[(0, aG [cI x0.1, .ro (.int 3) x0.2.1, .ro (.int 3) x0.2.2]), (1, aG [cI x1.1, .ro (.int 3) x1.2.1, .ro (.int 3) x1.2.2])], []⟩ a w := h
  have hl1 : List.length x0.2.1 ≤ 9223372036854775807 := hlens.1.2.1.1
  have hl2 : List.length x0.2.2 ≤ 9223372036854775807 := hlens.1.2.2.1
  have hl3 : List.length x1.2.1 ≤ 9223372036854775807 := hlens.2.1.2.1.1
  have hl4 : List.length x1.2.2 ≤ 9223372036854775807 := hlens.2.1.2.2.1
  have hT : TabOK Try.prog S_laws_eqCodedPacket_tab := (.cons S_laws_eqIntS_ok .nil)
  refine wp_seq ?_
  refine at_regq (T := S_laws_eqCodedPacket_tab) [{ ids := [1] }, { ids := [2] }] { ts := [2, 3, 4], os := [1, 2] } [] gamOK hT h (by kernel_rfl) trivial ?_
  intro a w h
  refine then_normal ?_
  refine wp_seq ?_
  refine wp_seq ?_
  refine at_regq (T := S_laws_eqCodedPacket_tab) [] { ts := [2, 3, 4, 9], os := [1, 2] } [] gamOK hT h (by kernel_rfl) trivial ?_
  intro a w h
  refine then_normal ?_
  refine at_test (!decide (x0.1 = x1.1)) h (by kernel_rfl) (fun h1 => ?_) (fun h1 => ?_)
  · replace h1 : ¬ (x0.1 = x1.1) := by simpa using h1
    refine wp_seq ?_
    refine at_regq (T := S_laws_eqCodedPacket_tab) [] { ts := [2, 3, 4], os := [1, 2] } [] gamOK hT h (by kernel_rfl) trivial ?_
    intro a w h
    refine then_normal ?_
    refine wp_ret ?_
    refine then_ret ?_
    exact at_return (S := S_laws_eqCodedPacket) (x := (x0, x1, ())) (false, ()) [] h (by kernel_rfl) trivial (congrArg (fun z => (z, ())) (show (false) = (Sh.eqB s38) x0 x1 from by exact (Sh.eqB_ne (s := s38) (fun e => h1 (congrArg (fun (y : T38) => y.1) e))).symm))
  · replace h1 : x0.1 = x1.1 := by simpa using h1
    refine wp_skip ?_
    refine then_normal ?_
    refine wp_seq ?_
    refine wp_seq ?_
    refine at_regq (T := S_laws_eqCodedPacket_tab) [] { ts := [2, 3, 4, 15], os := [1, 2] } [True] gamOK hT h (by kernel_rfl) ⟨trivial, trivial⟩ ?_
    intro a w h
    refine then_normal ?_
    refine at_test (!((Sh.eqB s34) x0.2.1 x1.2.1)) h (by kernel_rfl) (fun h2 => ?_) (fun h2 => ?_)
    · replace h2 : ((Sh.eqB s34) x0.2.1 x1.2.1) = false := notT h2
      refine wp_seq ?_
      refine at_reg (T := S_laws_eqCodedPacket_tab) [] { ts := [2, 3, 4], os := [1, 2] } ⟨[(2, aP 1 0), (3, aP 2 0), (4, aB false)], [(1, oX 38 [cI x0.1, .ro (.int 3) x0.2.1, .ro (.int 3) x0.2.2]), (2, oX 38 [cI x1.1, .ro (.int 3) x1.2.1, .ro (.int 3) x1.2.2])]⟩ [] gamOK hT h (by kernel_rfl) trivial ?_
      intro a w h
      refine then_normal ?_
      refine wp_ret ?_
      refine then_ret ?_
      exact at_return (S := S_laws_eqCodedPacket) (x := (x0, x1, ())) (false, ()) [] h (by kernel_rfl) trivial (congrArg (fun z => (z, ())) (show (false) = (Sh.eqB s38) x0 x1 from by exact (Sh.eqB_ne (s := s38) (fun e => Sh.of_eqB_ne h2 (congrArg (fun (y : T38) => y.2.1) e))).symm))
    · replace h2 : ((Sh.eqB s34) x0.2.1 x1.2.1) = true := notF h2
      refine wp_skip ?_
      refine then_normal ?_
      refine wp_seq ?_
      refine wp_seq ?_
      refine at_reg (T := S_laws_eqCodedPacket_tab) [] { ts := [4, 21], os := [] } ⟨[(4, aB false), (21, aB (!((Sh.eqB s34) x0.2.2 x1.2.2)))], []⟩ [True] gamOK hT h (by kernel_rfl) ⟨trivial, trivial⟩ ?_
      intro a w h
      refine then_normal ?_
      refine at_test (!((Sh.eqB s34) x0.2.2 x1.2.2)) h (by kernel_rfl) (fun h3 => ?_) (fun h3 => ?_)
      · replace h3 : ((Sh.eqB s34) x0.2.2 x1.2.2) = false := notT h3
        refine wp_seq ?_
        refine at_regq (T := S_laws_eqCodedPacket_tab) [] { ts := [4], os := [] } [] gamOK hT h (by kernel_rfl) trivial ?_
        intro a w h
        refine then_normal ?_
        refine wp_ret ?_
        refine then_ret ?_
        exact at_return (S := S_laws_eqCodedPacket) (x := (x0, x1, ())) (false, ()) [] h (by kernel_rfl) trivial (congrArg (fun z => (z, ())) (show (false) = (Sh.eqB s38) x0 x1 from by exact (Sh.eqB_ne (s := s38) (fun e => Sh.of_eqB_ne h3 (congrArg (fun (y : T38) => y.2.2) e))).symm))
      · replace h3 : ((Sh.eqB s34) x0.2.2 x1.2.2) = true := notF h3
        refine wp_skip ?_
        refine then_normal ?_
        refine wp_seq ?_
        refine at_regq (T := S_laws_eqCodedPacket_tab) [] { ts := [4], os := [] } [] gamOK hT h (by kernel_rfl) trivial ?_
        intro a w h
        refine then_normal ?_
        refine wp_ret ?_
        exact at_return (S := S_laws_eqCodedPacket) (x := (x0, x1, ())) (true, ()) [] h (by kernel_rfl) trivial (congrArg (fun z => (z, ())) (show (true) = (Sh.eqB s38) x0 x1 from by exact ((Sh.eqB_iff s38).2 (Prod.ext h1 (Prod.ext (Sh.of_eqB h2) (Sh.of_eqB h3)))).symm))

def S_laws_eqCodedPacketS : Sum := { fid := 191, dom := [s146, s146], cod := [(.bool 4)], dp := true, fz := false, pre := fun x => True, g := fun x => (((Sh.eqB s146) x.1 x.2.1), ()) }
def S_laws_eqCodedPacketS_tab : List (Nat × Sum) := [(26, S_laws_eqCodedPacket)]
theorem S_laws_eqCodedPacketS_ok : FnOK Try.prog 191 S_laws_eqCodedPacketS := by
  refine at_enter 27 (fun x => ⟨[(0, aF s38 x.1), (1, aF s38 x.2.1)], []⟩) Try.func191 rfl (by kernel_rfl) (fun x => rfl) ?_
  rintro w0 Z0 ⟨x0, x1, u⟩ a w
  revert x0 x1
  intro (x0 : (List T38)) (x1 : (List T38)) hpre hlens h
  replace h : At w0 Z0 [] 27 ⟨[(0, aF s38 x0), (1, aF s38 x1)], []⟩ a w := h
  have hl1 : List.length x0 ≤ 9223372036854775807 := hlens.1.1
  have hl2 : List.length x1 ≤ 9223372036854775807 := hlens.2.1.1
  have hT : TabOK Try.prog S_laws_eqCodedPacketS_tab := (.cons S_laws_eqCodedPacket_ok .nil)
  refine wp_seq ?_
  refine at_regq (T := S_laws_eqCodedPacketS_tab) [] { ts := [0, 1, 4], os := [] } [] gamOK hT h (by kernel_rfl) trivial ?_
  intro a w h
  refine then_normal ?_
  refine wp_seq ?_
  refine wp_seq ?_
  refine at_regq (T := S_laws_eqCodedPacketS_tab) [] { ts := [0, 1, 4, 10], os := [] } [] gamOK hT h (by kernel_rfl) trivial ?_
  intro a w h
  refine then_normal ?_
  refine at_test (!decide (((List.length x0 : Nat) : Int) = ((List.length x1 : Nat) : Int))) h (by kernel_rfl) (fun h1 => ?_) (fun h1 => ?_)
  · replace h1 : ¬ (((List.length x0 : Nat) : Int) = ((List.length x1 : Nat) : Int)) := by simpa using h1
    refine wp_seq ?_
    refine at_regq (T := S_laws_eqCodedPacketS_tab) [] { ts := [0, 1, 4], os := [] } [] gamOK hT h (by kernel_rfl) trivial ?_
    intro a w h
    refine then_normal ?_
    refine wp_ret ?_
    refine then_ret ?_
    exact at_return (S := S_laws_eqCodedPacketS) (x := (x0, x1, ())) (false, ()) [] h (by kernel_rfl) trivial (congrArg (fun z => (z, ())) (show (false) = (Sh.eqB s146) x0 x1 from by exact (Sh.eqB_ne (fun e => h1 (by rw [e]))).symm))
  · replace h1 : ((List.length x0 : Nat) : Int) = ((List.length x1 : Nat) : Int) := by simpa using h1
    refine wp_skip ?_
    refine then_normal ?_
    refine wp_seq ?_
    refine wp_seq ?_
    refine at_regq (T := S_laws_eqCodedPacketS_tab) [] { ts := [0, 1, 4, 5], os := [] } [] gamOK hT h (by kernel_rfl) trivial ?_
    intro a w h
    refine then_normal ?_
    refine wp_block ?_
    replace h := at_out (σ' := ⟨[(0, aF s38 x0), (1, aF s38 x1), (4, aB false), (5, aI 0)], []⟩) { ts := [0, 1, 4, 5], os := [] } h (by kernel_rfl)
    refine at_loop (fun i : Nat => (⟨[(0, aF s38 x0), (1, aF s38 x1), (4, aB false), (5, aI ((i : Nat) : Int))], []⟩ : St)) (fun i => (i ≤ List.length x0 ∧ x0.take i = x1.take i)) (fun i => List.length x0 - i) (0) h (st_congr1 (fun (d0 : Int) => (⟨[(0, aF s38 x0), (1, aF s38 x1), (4, aB false), (5, aI d0)], []⟩ : St)) (show (0 : Int) = (((0) : Nat) : Int) from by first | rfl | (rfl))) (by exact ⟨Nat.zero_le _, rfl⟩) ?_
    intro i a w hok0 h
    refine wp_seq ?_
    refine wp_seq ?_
    refine at_reg (T := S_laws_eqCodedPacketS_tab) [] { ts := [0, 1, 4, 5, 14], os := [] } ⟨[(0, aF s38 x0), (1, aF s38 x1), (4, aB false), (5, aI ((i : Nat) : Int)), (14, aB (decide (((i : Nat) : Int) < ((List.length x0 : Nat) : Int))))], []⟩ [] gamOK hT h (by kernel_rfl) trivial ?_
    intro a w h
    refine then_normal ?_
    refine at_test (decide (((i : Nat) : Int) < ((List.length x0 : Nat) : Int))) h (by kernel_rfl) (fun h2 => ?_) (fun h2 => ?_)
    · replace h2 : ((i : Nat) : Int) < ((List.length x0 : Nat) : Int) := of_decide_eq_true h2
      refine wp_skip ?_
      refine then_normal ?_
      refine wp_seq ?_
      refine wp_block ?_
      refine wp_seq ?_
      refine at_anyq (T := S_laws_eqCodedPacketS_tab) [{}, {}, {}, {}, {}, {}, {}, {}, {}, {}] { ts := [0, 1, 4, 5, 26], os := [] } [(0 : Int) ≤ ((i : Nat) : Int) ∧ ((i : Nat) : Int) < ((List.length x0 : Nat) : Int), (0 : Int) ≤ ((i : Nat) : Int) ∧ ((i : Nat) : Int) < ((List.length x1 : Nat) : Int), True] gamOK hT mixed h (by kernel_rfl) ⟨(by refine ⟨?_, ?_⟩ <;> (first | omega | (simp only [List.length_append, List.length_cons, List.length_nil, List.length_set, List.length_take, List.length_drop, List.length_replicate, List.length_map, Nat.min_def]; omega) | (simp; done) | (simp; omega) | done)), (by refine ⟨?_, ?_⟩ <;> (first | omega | (simp only [List.length_append, List.length_cons, List.length_nil, List.length_set, List.length_take, List.length_drop, List.length_replicate, List.length_map, Nat.min_def]; omega) | (simp; done) | (simp; omega) | done)), trivial, trivial⟩ ?_
      intro a w h
      refine then_normal ?_
      refine at_test (!((Sh.eqB s38) (x0.getD i (0, ([], []))) (x1.getD i (0, ([], []))))) h (by kernel_rfl) (fun h3 => ?_) (fun h3 => ?_)
      · replace h3 : ((Sh.eqB s38) (x0.getD i (0, ([], []))) (x1.getD i (0, ([], [])))) = false := notT h3
        refine wp_seq ?_
        refine at_regq (T := S_laws_eqCodedPacketS_tab) [] { ts := [0, 1, 4, 5], os := [] } [] gamOK hT h (by kernel_rfl) trivial ?_
        intro a w h
        refine then_normal ?_
        refine wp_ret ?_
        refine in_ret ?_
        refine then_ret ?_
        refine then_ret ?_
        refine in_ret ?_
        refine then_ret ?_
        exact at_return (S := S_laws_eqCodedPacketS) (x := (x0, x1, ())) (false, ()) [] h (by kernel_rfl) trivial (congrArg (fun z => (z, ())) (show (false) = (Sh.eqB s146) x0 x1 from by exact (Sh.eqB_ne (s := s146) (fun e => Sh.of_eqB_ne h3 (by rw [e]))).symm))
      · replace h3 : ((Sh.eqB s38) (x0.getD i (0, ([], []))) (x1.getD i (0, ([], [])))) = true := notF h3
        refine wp_skip ?_
        refine in_normal ?_
        refine then_normal ?_
        refine at_regq (T := S_laws_eqCodedPacketS_tab) [{}, { nw := true }] { ts := [0, 1, 4, 5], os := [] } [I64 (((i : Nat) : Int) + 1)] gamOK hT h (by kernel_rfl) ⟨⟨by first | omega | (simp only [List.length_append, List.length_cons, List.length_nil, List.length_set, List.length_take, List.length_drop, List.length_replicate, List.length_map, Nat.min_def]; omega) | (simp; done) | (simp; omega) | done, by first | omega | (simp only [List.length_append, List.length_cons, List.length_nil, List.length_set, List.length_take, List.length_drop, List.length_replicate, List.length_map, Nat.min_def]; omega) | (simp; done) | (simp; omega) | done⟩, trivial⟩ ?_
        intro a w h
        replace h := at_out (σ' := ⟨[(0, aF s38 x0), (1, aF s38 x1), (4, aB false), (5, aI (((i : Nat) : Int) + 1))], []⟩) { ts := [0, 1, 4, 5], os := [] } h (by kernel_rfl)
        exact ⟨i + 1, at_eq h (st_congr1 (fun (d0 : Int) => (⟨[(0, aF s38 x0), (1, aF s38 x1), (4, aB false), (5, aI d0)], []⟩ : St)) (show (((i : Nat) : Int) + 1 : Int) = (((i + 1) : Nat) : Int) from by first | rfl | (omega))), (by exact ⟨by omega, eqTo_step (z := (0, ([], []))) (by omega) (by omega) hok0.2 (Sh.of_eqB h3)⟩), (by omega)⟩
    · replace h2 : ¬ (((i : Nat) : Int) < ((List.length x0 : Nat) : Int)) := of_decide_eq_false h2
      refine wp_exit ?_
      refine then_exit ?_
      refine then_exit ?_
      refine in_hit ?_
      refine then_normal ?_
      refine wp_seq ?_
      refine at_regq (T := S_laws_eqCodedPacketS_tab) [] { ts := [4], os := [] } [] gamOK hT h (by kernel_rfl) trivial ?_
      intro a w h
      refine then_normal ?_
      refine wp_ret ?_
      exact at_return (S := S_laws_eqCodedPacketS) (x := (x0, x1, ())) (true, ()) [] h (by kernel_rfl) trivial (congrArg (fun z => (z, ())) (show (true) = (Sh.eqB s146) x0 x1 from by (have e := hok0.2; rw [take_all (by omega), take_all (by omega)] at e; exact ((Sh.eqB_iff s146).2 e).symm)))

def S_laws_eqRecoder : Sum := { fid := 169, dom := [s148, s148], cod := [(.bool 4)], dp := true, fz := false, pre := fun x => True, g := fun x => (((Sh.eqB s148) x.1 x.2.1), ()) }
def S_laws_eqRecoder_tab : List (Nat × Sum) := [(191, S_laws_eqCodedPacketS)]
theorem S_laws_eqRecoder_ok : FnOK Try.prog 169 S_laws_eqRecoder := by
  refine at_enter 31 (fun x => ⟨[(0, aG [cI x.1.1, cI x.1.2.1, cI x.1.2.2.1, .ro s38 x.1.2.2.2.1, cI x.1.2.2.2.2]), (1, aG [cI x.2.1.1, cI x.2.1.2.1, cI x.2.1.2.2.1, .ro s38 x.2.1.2.2.2.1, cI x.2.1.2.2.2.2])], []⟩) Try.func169 rfl (by kernel_rfl) (fun x => rfl) ?_
  rintro w0 Z0 ⟨x0, x1, u⟩ a w
  revert x0 x1
  intro (x0 : T148) (x1 : T148) hpre hlens h
  replace h : At w0 Z0 [] 31 ⟨[(0, aG [cI x0.1, cI x0.2.1, cI x0.2.2.1, .ro s38 x0.2.2.2.1, cI x0.2.2.2.2]), (1, aG [cI x1.1, cI x1.2.1, cI x1.2.2.1, .ro s38 x1.2.2.2.1, cI x1.2.2.2.2])], []⟩ a w := h
  have hl1 : List.length x0.2.2.2.1 ≤ 9223372036854775807 := hlens.1.2.2.2.1.1
  have hl2 : List.length x1.2.2.2.1 ≤ 9223372036854775807 := hlens.2.1.2.2.2.1.1
  have hT : TabOK Try.prog S_laws_eqRecoder_tab := (.cons S_laws_eqCodedPacketS_ok .nil)
  refine wp_seq ?_
  refine at_regq (T := S_laws_eqRecoder_tab) [{ ids := [1] }, { ids := [2] }] { ts := [2, 3, 4], os := [1, 2] } [] gamOK hT h (by kernel_rfl) trivial ?_
  intro a w h
  refine then_normal ?_
  refine wp_seq ?_
  refine wp_seq ?_
  refine at_regq (T := S_laws_eqRecoder_tab) [] { ts := [2, 3, 4, 9], os := [1, 2] } [] gamOK hT h (by kernel_rfl) trivial ?_
  intro a w h
  refine then_normal ?_
  refine at_test (!decide (x0.1 = x1.1)) h (by kernel_rfl) (fun h1 => ?_) (fun h1 => ?_)
  · replace h1 : ¬ (x0.1 = x1.1) := by simpa using h1
    refine wp_seq ?_
    refine at_regq (T := S_laws_eqRecoder_tab) [] { ts := [2, 3, 4], os := [1, 2] } [] gamOK hT h (by kernel_rfl) trivial ?_
    intro a w h
    refine then_normal ?_
    refine wp_ret ?_
    refine then_ret ?_
    exact at_return (S := S_laws_eqRecoder) (x := (x0, x1, ())) (false, ()) [] h (by kernel_rfl) trivial (congrArg (fun z => (z, ())) (show (false) = (Sh.eqB s148) x0 x1 from by exact (Sh.eqB_ne (s := s148) (fun e => h1 (congrArg (fun (y : T148) => y.1) e))).symm))
  · replace h1 : x0.1 = x1.1 := by simpa using h1
    refine wp_skip ?_
    refine then_normal ?_
    refine wp_seq ?_
    refine wp_seq ?_
    refine at_regq (T := S_laws_eqRecoder_tab) [] { ts := [2, 3, 4, 14], os := [1, 2] } [] gamOK hT h (by kernel_rfl) trivial ?_
    intro a w h
    refine then_normal ?_
    refine at_test (!decide (x0.2.1 = x1.2.1)) h (by kernel_rfl) (fun h2 => ?_) (fun h2 => ?_)
    · replace h2 : ¬ (x0.2.1 = x1.2.1) := by simpa using h2
      refine wp_seq ?_
      refine at_reg (T := S_laws_eqRecoder_tab) [] { ts := [2, 3, 4], os := [1, 2] } ⟨[(2, aP 1 0), (3, aP 2 0), (4, aB false)], [(1, oX 148 [cI x0.1, cI x0.2.1, cI x0.2.2.1, .ro s38 x0.2.2.2.1, cI x0.2.2.2.2]), (2, oX 148 [cI x1.1, cI x1.2.1, cI x1.2.2.1, .ro s38 x1.2.2.2.1, cI x1.2.2.2.2])]⟩ [] gamOK hT h (by kernel_rfl) trivial ?_
      intro a w h
      refine then_normal ?_
      refine wp_ret ?_
      refine then_ret ?_
      exact at_return (S := S_laws_eqRecoder) (x := (x0, x1, ())) (false, ()) [] h (by kernel_rfl) trivial (congrArg (fun z => (z, ())) (show (false) = (Sh.eqB s148) x0 x1 from by exact (Sh.eqB_ne (s := s148) (fun e => h2 (congrArg (fun (y : T148) => y.2.1) e))).symm))
    · replace h2 : x0.2.1 = x1.2.1 := by simpa using h2
      refine wp_skip ?_
      refine then_normal ?_
      refine wp_seq ?_
      refine wp_seq ?_
      refine at_reg (T := S_laws_eqRecoder_tab) [] { ts := [2, 3, 4, 19], os := [1, 2] } ⟨[(2, aP 1 0), (3, aP 2 0), (4, aB false), (19, aB (!decide (x0.2.2.1 = x1.2.2.1)))], [(1, oX 148 [cI x0.1, cI x0.2.1, cI x0.2.2.1, .ro s38 x0.2.2.2.1, cI x0.2.2.2.2]), (2, oX 148 [cI x1.1, cI x1.2.1, cI x1.2.2.1, .ro s38 x1.2.2.2.1, cI x1.2.2.2.2])]⟩ [] gamOK hT h (by kernel_rfl) trivial ?_
      intro a w h
      refine then_normal ?_
      refine at_test (!decide (x0.2.2.1 = x1.2.2.1)) h (by kernel_rfl) (fun h3 => ?_) (fun h3 => ?_)
      · replace h3 : ¬ (x0.2.2.1 = x1.2.2.1) := by simpa using h3
        refine wp_seq ?_
        refine at_regq (T := S_laws_eqRecoder_tab) [] { ts := [2, 3, 4], os := [1, 2] } [] gamOK hT h (by kernel_rfl) trivial ?_
        intro a w h
        refine then_normal ?_
        refine wp_ret ?_
        refine then_ret ?_
        exact at_return (S := S_laws_eqRecoder) (x := (x0, x1, ())) (false, ()) [] h (by kernel_rfl) trivial (congrArg (fun z => (z, ())) (show (false) = (Sh.eqB s148) x0 x1 from by exact (Sh.eqB_ne (s := s148) (fun e => h3 (congrArg (fun (y : T148) => y.2.2.1) e))).symm))
      · replace h3 : x0.2.2.1 = x1.2.2.1 := by simpa using h3
        refine wp_skip ?_
        refine then_normal ?_
        refine wp_seq ?_
        refine wp_seq ?_
        refine at_regq (T := S_laws_eqRecoder_tab) [] { ts := [2, 3, 4, 25], os := [1, 2] } [True] gamOK hT h (by kernel_rfl) ⟨trivial, trivial⟩ ?_
        intro a w h
        refine then_normal ?_
        refine at_test (!((Sh.eqB s146) x0.2.2.2.1 x1.2.2.2.1)) h (by kernel_rfl) (fun h4 => ?_) (fun h4 => ?_)
        · replace h4 : ((Sh.eqB s146) x0.2.2.2.1 x1.2.2.2.1) = false := notT h4
          refine wp_seq ?_
          refine at_regq (T := S_laws_eqRecoder_tab) [] { ts := [2, 3, 4], os := [1, 2] } [] gamOK hT h (by kernel_rfl) trivial ?_
          intro a w h
          refine then_normal ?_
          refine wp_ret ?_
          refine then_ret ?_
          exact at_return (S := S_laws_eqRecoder) (x := (x0, x1, ())) (false, ()) [] h (by kernel_rfl) trivial (congrArg (fun z => (z, ())) (show (false) = (Sh.eqB s148) x0 x1 from by exact (Sh.eqB_ne (s := s148) (fun e => Sh.of_eqB_ne h4 (congrArg (fun (y : T148) => y.2.2.2.1) e))).symm))
        · replace h4 : ((Sh.eqB s146) x0.2.2.2.1 x1.2.2.2.1) = true := notF h4
          refine wp_skip ?_
          refine then_normal ?_
          refine wp_seq ?_
          refine wp_seq ?_
          refine at_regq (T := S_laws_eqRecoder_tab) [] { ts := [4, 30], os := [] } [] gamOK hT h (by kernel_rfl) trivial ?_
          intro a w h
          refine then_normal ?_
          refine at_test (!decide (x0.2.2.2.2 = x1.2.2.2.2)) h (by kernel_rfl) (fun h5 => ?_) (fun h5 => ?_)
          · replace h5 : ¬ (x0.2.2.2.2 = x1.2.2.2.2) := by simpa using h5
            refine wp_seq ?_
            refine at_regq (T := S_laws_eqRecoder_tab) [] { ts := [4], os := [] } [] gamOK hT h (by kernel_rfl) trivial ?_
            intro a w h
            refine then_normal ?_
            refine wp_ret ?_
            refine then_ret ?_
            exact at_return (S := S_laws_eqRecoder) (x := (x0, x1, ())) (false, ()) [] h (by kernel_rfl) trivial (congrArg (fun z => (z, ())) (show (false) = (Sh.eqB s148) x0 x1 from by exact (Sh.eqB_ne (s := s148) (fun e => h5 (congrArg (fun (y : T148) => y.2.2.2.2) e))).symm))
          · replace h5 : x0.2.2.2.2 = x1.2.2.2.2 := by simpa using h5
            refine wp_skip ?_
            refine then_normal ?_
            refine wp_seq ?_
            refine at_regq (T := S_laws_eqRecoder_tab) [] { ts := [4], os := [] } [] gamOK hT h (by kernel_rfl) trivial ?_
            intro a w h
            refine then_normal ?_
            refine wp_ret ?_
            exact at_return (S := S_laws_eqRecoder) (x := (x0, x1, ())) (true, ()) [] h (by kernel_rfl) trivial (congrArg (fun z => (z, ())) (show (true) = (Sh.eqB s148) x0 x1 from by exact ((Sh.eqB_iff s148).2 (Prod.ext h1 (Prod.ext h2 (Prod.ext h3 (Prod.ext (Sh.of_eqB h4) h5))))).symm))

def S_laws_eqRecoderS : Sum := { fid := 127, dom := [s90, s90], cod := [(.bool 4)], dp := true, fz := false, pre := fun x => True, g := fun x => (((Sh.eqB s90) x.1 x.2.1), ()) }
def S_laws_eqRecoderS_tab : List (Nat × Sum) := [(169, S_laws_eqRecoder)]
theorem S_laws_eqRecoderS_ok : FnOK Try.prog 127 S_laws_eqRecoderS := by
  refine at_enter 27 (fun x => ⟨[(0, aF s148 x.1), (1, aF s148 x.2.1)], []⟩) Try.func127 rfl (by kernel_rfl) (fun x => rfl) ?_
  rintro w0 Z0 ⟨x0, x1, u⟩ a w
  revert x0 x1
  intro (x0 : (List T148)) (x1 : (List T148)) hpre hlens h
  replace h : At w0 Z0 [] 27 ⟨[(0, aF s148 x0), (1, aF s148 x1)], []⟩ a w := h
  have hl1 : List.length x0 ≤ 9223372036854775807 := hlens.1.1
  have hl2 : List.length x1 ≤ 9223372036854775807 := hlens.2.1.1
  have hT : TabOK Try.prog S_laws_eqRecoderS_tab := (.cons S_laws_eqRecoder_ok .nil)
  refine wp_seq ?_
  refine at_regq (T := S_laws_eqRecoderS_tab) [] { ts := [0, 1, 4], os := [] } [] gamOK hT h (by kernel_rfl) trivial ?_
  intro a w h
  refine then_normal ?_
  refine wp_seq ?_
  refine wp_seq ?_
  refine at_regq (T := S_laws_eqRecoderS_tab) [] { ts := [0, 1, 4, 10], os := [] } [] gamOK hT h (by kernel_rfl) trivial ?_
  intro a w h
  refine then_normal ?_
  refine at_test (!decide (((List.length x0 : Nat) : Int) = ((List.length x1 : Nat) : Int))) h (by kernel_rfl) (fun h1 => ?_) (fun h1 => ?_)
  · replace h1 : ¬ (((List.length x0 : Nat) : Int) = ((List.length x1 : Nat) : Int)) := by simpa using h1
    refine wp_seq ?_
    refine at_regq (T := S_laws_eqRecoderS_tab) [] { ts := [0, 1, 4], os := [] } [] gamOK hT h (by kernel_rfl) trivial ?_
    intro a w h
    refine then_normal ?_
    refine wp_ret ?_
    refine then_ret ?_
    exact at_return (S := S_laws_eqRecoderS) (x := (x0, x1, ())) (false, ()) [] h (by kernel_rfl) trivial (congrArg (fun z => (z, ())) (show (false) = (Sh.eqB s90) x0 x1 from by exact (Sh.eqB_ne (fun e => h1 (by rw [e]))).symm))
  · replace h1 : ((List.length x0 : Nat) : Int) = ((List.length x1 : Nat) : Int) := by simpa using h1
    refine wp_skip ?_
    refine then_normal ?_
    refine wp_seq ?_
    refine wp_seq ?_
    refine at_regq (T := S_laws_eqRecoderS_tab) [] { ts := [0, 1, 4, 5], os := [] } [] gamOK hT h (by kernel_rfl) trivial ?_
    intro a w h
    refine then_normal ?_
    refine wp_block ?_
    replace h := at_out (σ' := ⟨[(0, aF s148 x0), (1, aF s148 x1), (4, aB false), (5, aI 0)], []⟩) { ts := [0, 1, 4, 5], os := [] } h (by kernel_rfl)
    refine at_loop (fun i : Nat => (⟨[(0, aF s148 x0), (1, aF s148 x1), (4, aB false), (5, aI ((i : Nat) : Int))], []⟩ : St)) (fun i => (i ≤ List.length x0 ∧ x0.take i = x1.take i)) (fun i => List.length x0 - i) (0) h (st_congr1 (fun (d0 : Int) => (⟨[(0, aF s148 x0), (1, aF s148 x1), (4, aB false), (5, aI d0)], []⟩ : St)) (show (0 : Int) = (((0) : Nat) : Int) from by first | rfl | (rfl))) (by exact ⟨Nat.zero_le _, rfl⟩) ?_
    intro i a w hok0 h
    refine wp_seq ?_
    refine wp_seq ?_
    refine at_reg (T := S_laws_eqRecoderS_tab) [] { ts := [0, 1, 4, 5, 14], os := [] } ⟨[(0, aF s148 x0), (1, aF s148 x1), (4, aB false), (5, aI ((i : Nat) : Int)), (14, aB (decide (((i : Nat) : Int) < ((List.length x0 : Nat) : Int))))], []⟩ [] gamOK hT h (by kernel_rfl) trivial ?_
    intro a w h
    refine then_normal ?_
    refine at_test (decide (((i : Nat) : Int) < ((List.length x0 : Nat) : Int))) h (by kernel_rfl) (fun h2 => ?_) (fun h2 => ?_)
    · replace h2 : ((i : Nat) : Int) < ((List.length x0 : Nat) : Int) := of_decide_eq_true h2
      refine wp_skip ?_
      refine then_normal ?_
      refine wp_seq ?_
      refine wp_block ?_
      refine wp_seq ?_
      refine at_anyq (T := S_laws_eqRecoderS_tab) [{}, {}, {}, {}, {}, {}, {}, {}, {}, {}] { ts := [0, 1, 4, 5, 26], os := [] } [(0 : Int) ≤ ((i : Nat) : Int) ∧ ((i : Nat) : Int) < ((List.length x0 : Nat) : Int), (0 : Int) ≤ ((i : Nat) : Int) ∧ ((i : Nat) : Int) < ((List.length x1 : Nat) : Int), True] gamOK hT mixed h (by kernel_rfl) ⟨(by refine ⟨?_, ?_⟩ <;> (first | omega | (simp only [List.length_append, List.length_cons, List.length_nil, List.length_set, List.length_take, List.length_drop, List.length_replicate, List.length_map, Nat.min_def]; omega) | (simp; done) | (simp; omega) | done)), (by refine ⟨?_, ?_⟩ <;> (first | omega | (simp only [List.length_append, List.length_cons, List.length_nil, List.length_set, List.length_take, List.length_drop, List.length_replicate, List.length_map, Nat.min_def]; omega) | (simp; done) | (simp; omega) | done)), trivial, trivial⟩ ?_
      intro a w h
      refine then_normal ?_
      refine at_test (!((Sh.eqB s148) (x0.getD i (0, (0, (0, ([], 0))))) (x1.getD i (0, (0, (0, ([], 0))))))) h (by kernel_rfl) (fun h3 => ?_) (fun h3 => ?_)
      · replace h3 : ((Sh.eqB s148) (x0.getD i (0, (0, (0, ([], 0))))) (x1.getD i (0, (0, (0, ([], 0)))))) = false := notT h3
        refine wp_seq ?_
        refine at_regq (T := S_laws_eqRecoderS_tab) [] { ts := [0, 1, 4, 5], os := [] } [] gamOK hT h (by kernel_rfl) trivial ?_
        intro a w h
        refine then_normal ?_
        refine wp_ret ?_
        refine in_ret ?_
        refine then_ret ?_
        refine then_ret ?_
        refine in_ret ?_
        refine then_ret ?_
        exact at_return (S := S_laws_eqRecoderS) (x := (x0, x1, ())) (false, ()) [] h (by kernel_rfl) trivial (congrArg (fun z => (z, ())) (show (false) = (Sh.eqB s90) x0 x1 from by exact (Sh.eqB_ne (s := s90) (fun e => Sh.of_eqB_ne h3 (by rw [e]))).symm))
      · replace h3 : ((Sh.eqB s148) (x0.getD i (0, (0, (0, ([], 0))))) (x1.getD i (0, (0, (0, ([], 0)))))) = true := notF h3
        refine wp_skip ?_
        refine in_normal ?_
        refine then_normal ?_
        refine at_regq (T := S_laws_eqRecoderS_tab) [{}, { nw := true }] { ts := [0, 1, 4, 5], os := [] } [I64 (((i : Nat) : Int) + 1)] gamOK hT h (by kernel_rfl) ⟨⟨by first | omega | (simp only [List.length_append, List.length_cons, List.length_nil, List.length_set, List.length_take, List.length_drop, List.length_replicate, List.length_map, Nat.min_def]; omega) | (simp; done) | (simp; omega) | done, by first | omega | (simp only [List.length_append, List.length_cons, List.length_nil, List.length_set, List.length_take, List.length_drop, List.length_replicate, List.length_map, Nat.min_def]; omega) | (simp; done) | (simp; omega) | done⟩, trivial⟩ ?_
        intro a w h
        replace h := at_out (σ' := ⟨[(0, aF s148 x0), (1, aF s148 x1), (4, aB false), (5, aI (((i : Nat) : Int) + 1))], []⟩) { ts := [0, 1, 4, 5], os := [] } h (by kernel_rfl)
        exact ⟨i + 1, at_eq h (st_congr1 (fun (d0 : Int) => (⟨[(0, aF s148 x0), (1, aF s148 x1), (4, aB false), (5, aI d0)], []⟩ : St)) (show (((i : Nat) : Int) + 1 : Int) = (((i + 1) : Nat) : Int) from by first | rfl | (omega))), (by exact ⟨by omega, eqTo_step (z := (0, (0, (0, ([], 0))))) (by omega) (by omega) hok0.2 (Sh.of_eqB h3)⟩), (by omega)⟩
    · replace h2 : ¬ (((i : Nat) : Int) < ((List.length x0 : Nat) : Int)) := of_decide_eq_false h2
      refine wp_exit ?_
      refine then_exit ?_
      refine then_exit ?_
      refine in_hit ?_
      refine then_normal ?_
      refine wp_seq ?_
      refine at_regq (T := S_laws_eqRecoderS_tab) [] { ts := [4], os := [] } [] gamOK hT h (by kernel_rfl) trivial ?_
      intro a w h
      refine then_normal ?_
      refine wp_ret ?_
      exact at_return (S := S_laws_eqRecoderS) (x := (x0, x1, ())) (true, ()) [] h (by kernel_rfl) trivial (congrArg (fun z => (z, ())) (show (true) = (Sh.eqB s90) x0 x1 from by (have e := hok0.2; rw [take_all (by omega), take_all (by omega)] at e; exact ((Sh.eqB_iff s90).2 e).symm)))

def S_laws_eqRelay : Sum := { fid := 62, dom := [s92, s92], cod := [(.bool 4)], dp := true, fz := false, pre := fun x => True, g := fun x => (((Sh.eqB s92) x.1 x.2.1), ()) }
def S_laws_eqRelay_tab : List (Nat × Sum) := [(127, S_laws_eqRecoderS)]
theorem S_laws_eqRelay_ok : FnOK Try.prog 62 S_laws_eqRelay := by
  refine at_enter 16 (fun x => ⟨[(0, aG [cI x.1.1, .ro s148 x.1.2]), (1, aG [cI x.2.1.1, .ro s148 x.2.1.2])], []⟩) Try.func62 rfl (by kernel_rfl) (fun x => rfl) ?_
  rintro w0 Z0 ⟨x0, x1, u⟩ a w
  revert x0 x1
  intro (x0 : T92) (x1 : T92) hpre hlens h
  replace h : At w0 Z0 [] 16 ⟨[(0, aG [cI x0.1, .ro s148 x0.2]), (1, aG [cI x1.1, .ro s148 x1.2])], []⟩ a w := h
  have hl1 : List.length x0.2 ≤ 9223372036854775807 := hlens.1.2.1
  have hl2 : List.length x1.2 ≤ 9223372036854775807 := hlens.2.1.2.1
  have hT : TabOK Try.prog S_laws_eqRelay_tab := (.cons S_laws_eqRecoderS_ok .nil)
  refine wp_seq ?_
  refine at_regq (T := S_laws_eqRelay_tab) [{ ids := [1] }, { ids := [2] }] { ts := [2, 3, 4], os := [1, 2] } [] gamOK hT h (by kernel_rfl) trivial ?_
  intro a w h
  refine then_normal ?_
  refine wp_seq ?_
  refine wp_seq ?_
  refine at_regq (T := S_laws_eqRelay_tab) [] { ts := [2, 3, 4, 9], os := [1, 2] } [] gamOK hT h (by kernel_rfl) trivial ?_
  intro a w h
  refine then_normal ?_
  refine at_test (!decide (x0.1 = x1.1)) h (by kernel_rfl) (fun h1 => ?_) (fun h1 => ?_)
  · replace h1 : ¬ (x0.1 = x1.1) := by simpa using h1
    refine wp_seq ?_
    refine at_regq (T := S_laws_eqRelay_tab) [] { ts := [2, 3, 4], os := [1, 2] } [] gamOK hT h (by kernel_rfl) trivial ?_
    intro a w h
    refine then_normal ?_
    refine wp_ret ?_
    refine then_ret ?_
    exact at_return (S := S_laws_eqRelay) (x := (x0, x1, ())) (false, ()) [] h (by kernel_rfl) trivial (congrArg (fun z => (z, ())) (show (false) = (Sh.eqB s92) x0 x1 from by exact (Sh.eqB_ne (s := s92) (fun e => h1 (congrArg (fun (y : T92) => y.1) e))).symm))
  · replace h1 : x0.1 = x1.1 := by simpa using h1
    refine wp_skip ?_
    refine then_normal ?_
    refine wp_seq ?_
    refine wp_seq ?_
    refine at_regq (T := S_laws_eqRelay_tab) [] { ts := [4, 15], os := [] } [True] gamOK hT h (by kernel_rfl) ⟨trivial, trivial⟩ ?_
    intro a w h
    refine then_normal ?_
    refine at_test (!((Sh.eqB s90) x0.2 x1.2)) h (by kernel_rfl) (fun h2 => ?_) (fun h2 => ?_)
    · replace h2 : ((Sh.eqB s90) x0.2 x1.2) = false := notT h2
      refine wp_seq ?_
      refine at_reg (T := S_laws_eqRelay_tab) [] { ts := [4], os := [] } ⟨[(4, aB false)], []⟩ [] gamOK hT h (by kernel_rfl) trivial ?_
      intro a w h
      refine then_normal ?_
      refine wp_ret ?_
      refine then_ret ?_
      exact at_return (S := S_laws_eqRelay) (x := (x0, x1, ())) (false, ()) [] h (by kernel_rfl) trivial (congrArg (fun z => (z, ())) (show (false) = (Sh.eqB s92) x0 x1 from by exact (Sh.eqB_ne (s := s92) (fun e => Sh.of_eqB_ne h2 (congrArg (fun (y : T92) => y.2) e))).symm))
    · replace h2 : ((Sh.eqB s90) x0.2 x1.2) = true := notF h2
      refine wp_skip ?_
      refine then_normal ?_
      refine wp_seq ?_
      refine at_reg (T := S_laws_eqRelay_tab) [] { ts := [4], os := [] } ⟨[(4, aB true)], []⟩ [] gamOK hT h (by kernel_rfl) trivial ?_
      intro a w h
      refine then_normal ?_
      refine wp_ret ?_
      exact at_return (S := S_laws_eqRelay) (x := (x0, x1, ())) (true, ()) [] h (by kernel_rfl) trivial (congrArg (fun z => (z, ())) (show (true) = (Sh.eqB s92) x0 x1 from by exact ((Sh.eqB_iff s92).2 (Prod.ext h1 (Sh.of_eqB h2))).symm))

def S_laws_heldIntS : Sum := { fid := 64, dom := [s34, (.int 3)], cod := [(.int 3)], dp := true, fz := false, pre := fun x => (pMk s34) x.1 x.2.1, g := fun x => (((heldD s34) x.1 x.2.1), ()) }
def S_laws_heldIntS_tab : List (Nat × Sum) := []
theorem S_laws_heldIntS_ok : FnOK Try.prog 64 S_laws_heldIntS := by
  refine at_enter 21 (fun x => ⟨[(0, aF (.int 3) x.1), (1, aI x.2.1)], []⟩) Try.func64 rfl (by kernel_rfl) (fun x => rfl) ?_
  rintro w0 Z0 ⟨x0, x1, u⟩ a w
  revert x0 x1
  intro (x0 : (List Int)) (x1 : Int) hpre hlens h
  replace h : At w0 Z0 [] 21 ⟨[(0, aF (.int 3) x0), (1, aI x1)], []⟩ a w := h
  replace hpre : (pMk s34) x0 x1 := hpre
  have hl1 : List.length x0 ≤ 9223372036854775807 := hlens.1.1
  have hT : TabOK Try.prog S_laws_heldIntS_tab := .nil
  have hp : 0 ≤ x1 ∧ x1 + ((Sh.ct s34 x0 : Nat) : Int) ≤ 4611686018427387904 := hpre
  have hct0 : Sh.ct s34 x0 = ctL (Sh.ct (.int 3)) x0 := rfl
  refine wp_seq ?_
  refine at_regq (T := S_laws_heldIntS_tab) [] { ts := [0, 1, 4], os := [] } [] gamOK hT h (by kernel_rfl) trivial ?_
  intro a w h
  refine then_normal ?_
  refine wp_seq ?_
  refine wp_seq ?_
  refine at_regq (T := S_laws_heldIntS_tab) [] { ts := [0, 1, 4, 5], os := [] } [] gamOK hT h (by kernel_rfl) trivial ?_
  intro a w h
  refine then_normal ?_
  refine wp_block ?_
  replace h := at_out (σ' := ⟨[(0, aF (.int 3) x0), (1, aI x1), (4, aI 0), (5, aI 0)], []⟩) { ts := [0, 1, 4, 5], os := [] } h (by kernel_rfl)
  refine at_loop (fun i : Nat => (⟨[(0, aF (.int 3) x0), (1, aI (x1 + ((ctL (Sh.ct (.int 3)) (List.take i x0) : Nat) : Int))), (4, aI 0), (5, aI ((i : Nat) : Int))], []⟩ : St)) (fun i => (i ≤ List.length x0 ∧ mkL (Sh.mk (.int 3)) (Sh.ct (.int 3)) x1 (x0.take i) = x0.take i)) (fun i => List.length x0 - i) (0) h (st_congr2 (fun (d0 : Int) (d1 : Int) => (⟨[(0, aF (.int 3) x0), (1, aI d0), (4, aI 0), (5, aI d1)], []⟩ : St)) (show (x1 : Int) = (x1 + ((ctL (Sh.ct (.int 3)) (List.take (0) x0) : Nat) : Int)) from by first | rfl | (simp [ctL])) (show (0 : Int) = (((0) : Nat) : Int) from by first | rfl | (simp [ctL]))) (by exact ⟨Nat.zero_le _, by simp [mkL]⟩) ?_
  intro i a w hok0 h
  refine wp_seq ?_
  refine wp_seq ?_
  refine at_regq (T := S_laws_heldIntS_tab) [] { ts := [0, 1, 4, 5, 9], os := [] } [] gamOK hT h (by kernel_rfl) trivial ?_
  intro a w h
  refine then_normal ?_
  refine at_test (decide (((i : Nat) : Int) < ((List.length x0 : Nat) : Int))) h (by kernel_rfl) (fun h1 => ?_) (fun h1 => ?_)
  · replace h1 : ((i : Nat) : Int) < ((List.length x0 : Nat) : Int) := of_decide_eq_true h1
    have hat := ctL_at_le (c := Sh.ct (.int 3)) (xs := x0) (z := 0) (i := i) (by omega)
    have hsu := ctL_take_succ (c := Sh.ct (.int 3)) (xs := x0) (z := 0) (i := i) (by omega)
    have hci : Sh.ct (.int 3) (x0.getD i 0) = 1 := rfl
    refine wp_skip ?_
    refine then_normal ?_
    refine wp_seq ?_
    refine wp_block ?_
    refine wp_seq ?_
    refine wp_seq ?_
    refine at_reg (T := S_laws_heldIntS_tab) [] { ts := [0, 1, 4, 5, 17], os := [] } ⟨[(0, aF (.int 3) x0), (1, aI (x1 + ((ctL (Sh.ct (.int 3)) (List.take i x0) : Nat) : Int))), (4, aI 0), (5, aI ((i : Nat) : Int)), (17, aB (!decide ((x0.getD i 0) = (x1 + ((ctL (Sh.ct (.int 3)) (List.take i x0) : Nat) : Int)))))], []⟩ [(0 : Int) ≤ ((i : Nat) : Int) ∧ ((i : Nat) : Int) < ((List.length x0 : Nat) : Int)] gamOK hT h (by kernel_rfl) ⟨(by refine ⟨?_, ?_⟩ <;> (first | omega | (simp only [List.length_append, List.length_cons, List.length_nil, List.length_set, List.length_take, List.length_drop, List.length_replicate, List.length_map, Nat.min_def]; omega) | (simp; done) | (simp; omega) | done)), trivial⟩ ?_
    intro a w h
    refine then_normal ?_
    refine at_test (!decide ((x0.getD i 0) = (x1 + ((ctL (Sh.ct (.int 3)) (List.take i x0) : Nat) : Int)))) h (by kernel_rfl) (fun h2 => ?_) (fun h2 => ?_)
    · replace h2 : ¬ ((x0.getD i 0) = (x1 + ((ctL (Sh.ct (.int 3)) (List.take i x0) : Nat) : Int))) := by simpa using h2
      refine wp_seq ?_
      refine at_regq (T := S_laws_heldIntS_tab) [] { ts := [0, 1, 4, 5], os := [] } [] gamOK hT h (by kernel_rfl) trivial ?_
      intro a w h
      refine then_normal ?_
      refine wp_ret ?_
      refine then_ret ?_
      refine in_ret ?_
      refine then_ret ?_
      refine then_ret ?_
      refine in_ret ?_
      refine then_ret ?_
      exact at_return (S := S_laws_heldIntS) (x := (x0, x1, ())) ((-1), ()) [] h (by kernel_rfl) trivial (congrArg (fun z => (z, ())) (show ((-1)) = (heldD s34) x0 x1 from by refine (heldD_no (s := s34) (fun e => ?_)).symm; have e2 : (x1 + ((ctL (Sh.ct (.int 3)) (List.take i x0) : Nat) : Int)) = (x0.getD i 0) := congrArg (fun (y : Int) => y) (mkL_get (z := 0) (i := i) e (by omega)); omega))
    · replace h2 : (x0.getD i 0) = (x1 + ((ctL (Sh.ct (.int 3)) (List.take i x0) : Nat) : Int)) := by simpa using h2
      refine wp_skip ?_
      refine then_normal ?_
      refine at_regq (T := S_laws_heldIntS_tab) [{}, { nw := true }] { ts := [0, 1, 4, 5], os := [] } [I64 ((x1 + ((ctL (Sh.ct (.int 3)) (List.take i x0) : Nat) : Int)) + 1)] gamOK hT h (by kernel_rfl) ⟨⟨by first | omega | (simp only [List.length_append, List.length_cons, List.length_nil, List.length_set, List.length_take, List.length_drop, List.length_replicate, List.length_map, Nat.min_def]; omega) | (simp; done) | (simp; omega) | done, by first | omega | (simp only [List.length_append, List.length_cons, List.length_nil, List.length_set, List.length_take, List.length_drop, List.length_replicate, List.length_map, Nat.min_def]; omega) | (simp; done) | (simp; omega) | done⟩, trivial⟩ ?_
      intro a w h
      refine in_normal ?_
      refine then_normal ?_
      refine at_regq (T := S_laws_heldIntS_tab) [{}, { nw := true }] { ts := [0, 1, 4, 5], os := [] } [I64 (((i : Nat) : Int) + 1)] gamOK hT h (by kernel_rfl) ⟨⟨by first | omega | (simp only [List.length_append, List.length_cons, List.length_nil, List.length_set, List.length_take, List.length_drop, List.length_replicate, List.length_map, Nat.min_def]; omega) | (simp; done) | (simp; omega) | done, by first | omega | (simp only [List.length_append, List.length_cons, List.length_nil, List.length_set, List.length_take, List.length_drop, List.length_replicate, List.length_map, Nat.min_def]; omega) | (simp; done) | (simp; omega) | done⟩, trivial⟩ ?_
      intro a w h
      replace h := at_out (σ' := ⟨[(0, aF (.int 3) x0), (1, aI ((x1 + ((ctL (Sh.ct (.int 3)) (List.take i x0) : Nat) : Int)) + 1)), (4, aI 0), (5, aI (((i : Nat) : Int) + 1))], []⟩) { ts := [0, 1, 4, 5], os := [] } h (by kernel_rfl)
      exact ⟨i + 1, at_eq h (st_congr2 (fun (d0 : Int) (d1 : Int) => (⟨[(0, aF (.int 3) x0), (1, aI d0), (4, aI 0), (5, aI d1)], []⟩ : St)) (show ((x1 + ((ctL (Sh.ct (.int 3)) (List.take i x0) : Nat) : Int)) + 1 : Int) = (x1 + ((ctL (Sh.ct (.int 3)) (List.take (i + 1) x0) : Nat) : Int)) from by first | rfl | (omega)) (show (((i : Nat) : Int) + 1 : Int) = (((i + 1) : Nat) : Int) from by first | rfl | (omega))), (by exact ⟨by omega, mkL_step (z := 0) (by omega) hok0.2 (by show ((x1 + ((ctL (Sh.ct (.int 3)) (List.take i x0) : Nat) : Int)) : Int) = (x0.getD i 0); omega)⟩), (by omega)⟩
  · replace h1 : ¬ (((i : Nat) : Int) < ((List.length x0 : Nat) : Int)) := of_decide_eq_false h1
    refine wp_exit ?_
    refine then_exit ?_
    refine then_exit ?_
    refine in_hit ?_
    refine then_normal ?_
    refine wp_seq ?_
    refine at_reg (T := S_laws_heldIntS_tab) [] { ts := [4], os := [] } ⟨[(4, aI (x1 + ((ctL (Sh.ct (.int 3)) (List.take i x0) : Nat) : Int)))], []⟩ [] gamOK hT h (by kernel_rfl) trivial ?_
    intro a w h
    refine then_normal ?_
    refine wp_ret ?_
    exact at_return (S := S_laws_heldIntS) (x := (x0, x1, ())) ((x1 + ((ctL (Sh.ct (.int 3)) (List.take i x0) : Nat) : Int)), ()) [] h (by kernel_rfl) trivial (congrArg (fun z => (z, ())) (show ((x1 + ((ctL (Sh.ct (.int 3)) (List.take i x0) : Nat) : Int))) = (heldD s34) x0 x1 from by have e := hok0.2; rw [take_all (by omega)] at e; rw [heldD_pos (s := s34) e, hct0, take_all (by omega)]))

def S_laws_heldCodedPacketS : Sum := { fid := 183, dom := [s146, (.int 3)], cod := [(.int 3)], dp := true, fz := false, pre := fun x => (pMk s146) x.1 x.2.1, g := fun x => (((heldD s146) x.1 x.2.1), ()) }
def S_laws_heldCodedPacketS_tab : List (Nat × Sum) := [(64, S_laws_heldIntS)]
theorem S_laws_heldCodedPacketS_ok : FnOK Try.prog 183 S_laws_heldCodedPacketS := by
  refine at_enter 40 (fun x => ⟨[(0, aF s38 x.1), (1, aI x.2.1)], []⟩) Try.func183 rfl (by kernel_rfl) (fun x => rfl) ?_
  rintro w0 Z0 ⟨x0, x1, u⟩ a w
  revert x0 x1
  intro (x0 : (List T38)) (x1 : Int) hpre hlens h
  replace h : At w0 Z0 [] 40 ⟨[(0, aF s38 x0), (1, aI x1)], []⟩ a w := h
  replace hpre : (pMk s146) x0 x1 := hpre
  have hl1 : List.length x0 ≤ 9223372036854775807 := hlens.1.1
  have hT : TabOK Try.prog S_laws_heldCodedPacketS_tab := (.cons S_laws_heldIntS_ok .nil)
  have hp : 0 ≤ x1 ∧ x1 + ((Sh.ct s146 x0 : Nat) : Int) ≤ 4611686018427387904 := hpre
  have hct0 : Sh.ct s146 x0 = ctL (Sh.ct s38) x0 := rfl
  refine wp_seq ?_
  refine at_regq (T := S_laws_heldCodedPacketS_tab) [] { ts := [0, 1, 4], os := [] } [] gamOK hT h (by kernel_rfl) trivial ?_
  intro a w h
  refine then_normal ?_
  refine wp_seq ?_
  refine wp_seq ?_
  refine at_regq (T := S_laws_heldCodedPacketS_tab) [] { ts := [0, 1, 4, 5], os := [] } [] gamOK hT h (by kernel_rfl) trivial ?_
  intro a w h
  refine then_normal ?_
  refine wp_block ?_
  replace h := at_out (σ' := ⟨[(0, aF s38 x0), (1, aI x1), (4, aI 0), (5, aI 0)], []⟩) { ts := [0, 1, 4, 5], os := [] } h (by kernel_rfl)
  refine at_loop (fun i : Nat => (⟨[(0, aF s38 x0), (1, aI (x1 + ((ctL (Sh.ct s38) (List.take i x0) : Nat) : Int))), (4, aI 0), (5, aI ((i : Nat) : Int))], []⟩ : St)) (fun i => (i ≤ List.length x0 ∧ mkL (Sh.mk s38) (Sh.ct s38) x1 (x0.take i) = x0.take i)) (fun i => List.length x0 - i) (0) h (st_congr2 (fun (d0 : Int) (d1 : Int) => (⟨[(0, aF s38 x0), (1, aI d0), (4, aI 0), (5, aI d1)], []⟩ : St)) (show (x1 : Int) = (x1 + ((ctL (Sh.ct s38) (List.take (0) x0) : Nat) : Int)) from by first | rfl | (simp [ctL])) (show (0 : Int) = (((0) : Nat) : Int) from by first | rfl | (simp [ctL]))) (by exact ⟨Nat.zero_le _, by simp [mkL]⟩) ?_
  intro i a w hok0 h
  refine wp_seq ?_
  refine wp_seq ?_
  refine at_regq (T := S_laws_heldCodedPacketS_tab) [] { ts := [0, 1, 4, 5, 9], os := [] } [] gamOK hT h (by kernel_rfl) trivial ?_
  intro a w h
  refine then_normal ?_
  refine at_test (decide (((i : Nat) : Int) < ((List.length x0 : Nat) : Int))) h (by kernel_rfl) (fun h1 => ?_) (fun h1 => ?_)
  · replace h1 : ((i : Nat) : Int) < ((List.length x0 : Nat) : Int) := of_decide_eq_true h1
    have hat := ctL_at_le (c := Sh.ct s38) (xs := x0) (z := (0, ([], []))) (i := i) (by omega)
    have hsu := ctL_take_succ (c := Sh.ct s38) (xs := x0) (z := (0, ([], []))) (i := i) (by omega)
    have hci : Sh.ct s38 (x0.getD i (0, ([], []))) = (1 + ((Sh.ct s34 (x0.getD i (0, ([], []))).2.1) + (Sh.ct s34 (x0.getD i (0, ([], []))).2.2))) := rfl
    refine wp_skip ?_
    refine then_normal ?_
    refine wp_seq ?_
    refine wp_block ?_
    refine wp_seq ?_
    refine wp_seq ?_
    refine at_reg (T := S_laws_heldCodedPacketS_tab) [] { ts := [0, 1, 4, 5, 18], os := [] } ⟨[(0, aF s38 x0), (1, aI (x1 + ((ctL (Sh.ct s38) (List.take i x0) : Nat) : Int))), (4, aI 0), (5, aI ((i : Nat) : Int)), (18, aB (!decide ((x0.getD i (0, ([], []))).1 = (x1 + ((ctL (Sh.ct s38) (List.take i x0) : Nat) : Int)))))], []⟩ [(0 : Int) ≤ ((i : Nat) : Int) ∧ ((i : Nat) : Int) < ((List.length x0 : Nat) : Int)] gamOK hT h (by kernel_rfl) ⟨(by refine ⟨?_, ?_⟩ <;> (first | omega | (simp only [List.length_append, List.length_cons, List.length_nil, List.length_set, List.length_take, List.length_drop, List.length_replicate, List.length_map, Nat.min_def]; omega) | (simp; done) | (simp; omega) | done)), trivial⟩ ?_
    intro a w h
    refine then_normal ?_
    refine at_test (!decide ((x0.getD i (0, ([], []))).1 = (x1 + ((ctL (Sh.ct s38) (List.take i x0) : Nat) : Int)))) h (by kernel_rfl) (fun h2 => ?_) (fun h2 => ?_)
    · replace h2 : ¬ ((x0.getD i (0, ([], []))).1 = (x1 + ((ctL (Sh.ct s38) (List.take i x0) : Nat) : Int))) := by simpa using h2
      refine wp_seq ?_
      refine at_regq (T := S_laws_heldCodedPacketS_tab) [] { ts := [0, 1, 4, 5], os := [] } [] gamOK hT h (by kernel_rfl) trivial ?_
      intro a w h
      refine then_normal ?_
      refine wp_ret ?_
      refine then_ret ?_
      refine in_ret ?_
      refine then_ret ?_
      refine then_ret ?_
      refine in_ret ?_
      refine then_ret ?_
      exact at_return (S := S_laws_heldCodedPacketS) (x := (x0, x1, ())) ((-1), ()) [] h (by kernel_rfl) trivial (congrArg (fun z => (z, ())) (show ((-1)) = (heldD s146) x0 x1 from by refine (heldD_no (s := s146) (fun e => ?_)).symm; have e2 : (x1 + ((ctL (Sh.ct s38) (List.take i x0) : Nat) : Int)) = (x0.getD i (0, ([], []))).1 := congrArg (fun (y : T38) => y.1) (mkL_get (z := (0, ([], []))) (i := i) e (by omega)); omega))
    · replace h2 : (x0.getD i (0, ([], []))).1 = (x1 + ((ctL (Sh.ct s38) (List.take i x0) : Nat) : Int)) := by simpa using h2
      refine wp_skip ?_
      refine then_normal ?_
      refine wp_seq ?_
      refine at_regq (T := S_laws_heldCodedPacketS_tab) [{}, { nw := true }] { ts := [0, 1, 4, 5], os := [] } [I64 ((x1 + ((ctL (Sh.ct s38) (List.take i x0) : Nat) : Int)) + 1)] gamOK hT h (by kernel_rfl) ⟨⟨by first | omega | (simp only [List.length_append, List.length_cons, List.length_nil, List.length_set, List.length_take, List.length_drop, List.length_replicate, List.length_map, Nat.min_def]; omega) | (simp; done) | (simp; omega) | done, by first | omega | (simp only [List.length_append, List.length_cons, List.length_nil, List.length_set, List.length_take, List.length_drop, List.length_replicate, List.length_map, Nat.min_def]; omega) | (simp; done) | (simp; omega) | done⟩, trivial⟩ ?_
      intro a w h
      refine then_normal ?_
      refine wp_seq ?_
      refine at_regq (T := S_laws_heldCodedPacketS_tab) [] { ts := [0, 1, 4, 5], os := [] } [(0 : Int) ≤ ((i : Nat) : Int) ∧ ((i : Nat) : Int) < ((List.length x0 : Nat) : Int), (pMk s34) (x0.getD i (0, ([], []))).2.1 ((x1 + ((ctL (Sh.ct s38) (List.take i x0) : Nat) : Int)) + 1)] gamOK hT h (by kernel_rfl) ⟨(by refine ⟨?_, ?_⟩ <;> (first | omega | (simp only [List.length_append, List.length_cons, List.length_nil, List.length_set, List.length_take, List.length_drop, List.length_replicate, List.length_map, Nat.min_def]; omega) | (simp; done) | (simp; omega) | done)), (by (first | (show (0 : Int) ≤ _ ∧ _ + ((Sh.ct _ _ : Nat) : Int) ≤ (4611686018427387904 : Int); constructor <;> omega) | (show (0 : Int) ≤ _ ∧ _ + ((Sh.ctT _ _ : Nat) : Int) ≤ (4611686018427387904 : Int); constructor <;> omega))), trivial⟩ ?_
      intro a w h
      refine then_normal ?_
      refine wp_seq ?_
      refine wp_seq ?_
      refine at_regq (T := S_laws_heldCodedPacketS_tab) [] { ts := [0, 1, 4, 5, 29], os := [] } [] gamOK hT h (by kernel_rfl) trivial ?_
      intro a w h
      refine then_normal ?_
      refine at_test (decide (((heldD s34) (x0.getD i (0, ([], []))).2.1 ((x1 + ((ctL (Sh.ct s38) (List.take i x0) : Nat) : Int)) + 1)) < 0)) h (by kernel_rfl) (fun h3 => ?_) (fun h3 => ?_)
      · replace h3 : ((heldD s34) (x0.getD i (0, ([], []))).2.1 ((x1 + ((ctL (Sh.ct s38) (List.take i x0) : Nat) : Int)) + 1)) < 0 := of_decide_eq_true h3
        have hvh3 := heldD_neg (by omega) h3
        refine wp_seq ?_
        refine at_reg (T := S_laws_heldCodedPacketS_tab) [] { ts := [0, 1, 4, 5], os := [] } ⟨[(0, aF s38 x0), (1, aI ((heldD s34) (x0.getD i (0, ([], []))).2.1 ((x1 + ((ctL (Sh.ct s38) (List.take i x0) : Nat) : Int)) + 1))), (4, aI (-1)), (5, aI ((i : Nat) : Int))], []⟩ [] gamOK hT h (by kernel_rfl) trivial ?_
        intro a w h
        refine then_normal ?_
        refine wp_ret ?_
        refine then_ret ?_
        refine in_ret ?_
        refine then_ret ?_
        refine then_ret ?_
        refine in_ret ?_
        refine then_ret ?_
        exact at_return (S := S_laws_heldCodedPacketS) (x := (x0, x1, ())) ((-1), ()) [] h (by kernel_rfl) trivial (congrArg (fun z => (z, ())) (show ((-1)) = (heldD s146) x0 x1 from by refine (heldD_no (s := s146) (fun e => ?_)).symm; have e2 : Sh.mk s34 (x0.getD i (0, ([], []))).2.1 ((x1 + ((ctL (Sh.ct s38) (List.take i x0) : Nat) : Int)) + ((1 : Nat) : Int)) = (x0.getD i (0, ([], []))).2.1 := congrArg (fun (y : T38) => y.2.1) (mkL_get (z := (0, ([], []))) (i := i) e (by omega)); exact hvh3 ((congrArg (fun k => Sh.mk s34 (x0.getD i (0, ([], []))).2.1 k) (show (_ : Int) = (x1 + ((ctL (Sh.ct s38) (List.take i x0) : Nat) : Int)) + ((1 : Nat) : Int) from by first | rfl | omega)).trans e2)))
      · replace h3 : ¬ (((heldD s34) (x0.getD i (0, ([], []))).2.1 ((x1 + ((ctL (Sh.ct s38) (List.take i x0) : Nat) : Int)) + 1)) < 0) := of_decide_eq_false h3
        have hvh3 := heldD_val h3
        refine wp_skip ?_
        refine then_normal ?_
        refine wp_seq ?_
        refine at_reg (T := S_laws_heldCodedPacketS_tab) [] { ts := [0, 1, 4, 5], os := [] } ⟨[(0, aF s38 x0), (1, aI ((heldD s34) (x0.getD i (0, ([], []))).2.2 ((heldD s34) (x0.getD i (0, ([], []))).2.1 ((x1 + ((ctL (Sh.ct s38) (List.take i x0) : Nat) : Int)) + 1)))), (4, aI 0), (5, aI ((i : Nat) : Int))], []⟩ [(0 : Int) ≤ ((i : Nat) : Int) ∧ ((i : Nat) : Int) < ((List.length x0 : Nat) : Int), (pMk s34) (x0.getD i (0, ([], []))).2.2 ((heldD s34) (x0.getD i (0, ([], []))).2.1 ((x1 + ((ctL (Sh.ct s38) (List.take i x0) : Nat) : Int)) + 1))] gamOK hT h (by kernel_rfl) ⟨(by refine ⟨?_, ?_⟩ <;> (first | omega | (simp only [List.length_append, List.length_cons, List.length_nil, List.length_set, List.length_take, List.length_drop, List.length_replicate, List.length_map, Nat.min_def]; omega) | (simp; done) | (simp; omega) | done)), (by (first | (show (0 : Int) ≤ _ ∧ _ + ((Sh.ct _ _ : Nat) : Int) ≤ (4611686018427387904 : Int); constructor <;> omega) | (show (0 : Int) ≤ _ ∧ _ + ((Sh.ctT _ _ : Nat) : Int) ≤ (4611686018427387904 : Int); constructor <;> omega))), trivial⟩ ?_
        intro a w h
        refine then_normal ?_
        refine wp_seq ?_
        refine at_regq (T := S_laws_heldCodedPacketS_tab) [] { ts := [0, 1, 4, 5, 38], os := [] } [] gamOK hT h (by kernel_rfl) trivial ?_
        intro a w h
        refine then_normal ?_
        refine at_test (decide (((heldD s34) (x0.getD i (0, ([], []))).2.2 ((heldD s34) (x0.getD i (0, ([], []))).2.1 ((x1 + ((ctL (Sh.ct s38) (List.take i x0) : Nat) : Int)) + 1))) < 0)) h (by kernel_rfl) (fun h4 => ?_) (fun h4 => ?_)
        · replace h4 : ((heldD s34) (x0.getD i (0, ([], []))).2.2 ((heldD s34) (x0.getD i (0, ([], []))).2.1 ((x1 + ((ctL (Sh.ct s38) (List.take i x0) : Nat) : Int)) + 1))) < 0 := of_decide_eq_true h4
          have hvh4 := heldD_neg (by omega) h4
          refine wp_seq ?_
          refine at_regq (T := S_laws_heldCodedPacketS_tab) [] { ts := [0, 1, 4, 5], os := [] } [] gamOK hT h (by kernel_rfl) trivial ?_
          intro a w h
          refine then_normal ?_
          refine wp_ret ?_
          refine in_ret ?_
          refine then_ret ?_
          refine then_ret ?_
          refine in_ret ?_
          refine then_ret ?_
          exact at_return (S := S_laws_heldCodedPacketS) (x := (x0, x1, ())) ((-1), ()) [] h (by kernel_rfl) trivial (congrArg (fun z => (z, ())) (show ((-1)) = (heldD s146) x0 x1 from by refine (heldD_no (s := s146) (fun e => ?_)).symm; have e2 : Sh.mk s34 (x0.getD i (0, ([], []))).2.2 ((x1 + ((ctL (Sh.ct s38) (List.take i x0) : Nat) : Int)) + ((1 : Nat) : Int) + (((Sh.ct s34 (x0.getD i (0, ([], []))).2.1) : Nat) : Int)) = (x0.getD i (0, ([], []))).2.2 := congrArg (fun (y : T38) => y.2.2) (mkL_get (z := (0, ([], []))) (i := i) e (by omega)); exact hvh4 ((congrArg (fun k => Sh.mk s34 (x0.getD i (0, ([], []))).2.2 k) (show (_ : Int) = (x1 + ((ctL (Sh.ct s38) (List.take i x0) : Nat) : Int)) + ((1 : Nat) : Int) + (((Sh.ct s34 (x0.getD i (0, ([], []))).2.1) : Nat) : Int) from by first | rfl | omega)).trans e2)))
        · replace h4 : ¬ (((heldD s34) (x0.getD i (0, ([], []))).2.2 ((heldD s34) (x0.getD i (0, ([], []))).2.1 ((x1 + ((ctL (Sh.ct s38) (List.take i x0) : Nat) : Int)) + 1))) < 0) := of_decide_eq_false h4
          have hvh4 := heldD_val h4
          refine wp_skip ?_
          refine in_normal ?_
          refine then_normal ?_
          refine at_regq (T := S_laws_heldCodedPacketS_tab) [{}, { nw := true }] { ts := [0, 1, 4, 5], os := [] } [I64 (((i : Nat) : Int) + 1)] gamOK hT h (by kernel_rfl) ⟨⟨by first | omega | (simp only [List.length_append, List.length_cons, List.length_nil, List.length_set, List.length_take, List.length_drop, List.length_replicate, List.length_map, Nat.min_def]; omega) | (simp; done) | (simp; omega) | done, by first | omega | (simp only [List.length_append, List.length_cons, List.length_nil, List.length_set, List.length_take, List.length_drop, List.length_replicate, List.length_map, Nat.min_def]; omega) | (simp; done) | (simp; omega) | done⟩, trivial⟩ ?_
          intro a w h
          replace h := at_out (σ' := ⟨[(0, aF s38 x0), (1, aI ((heldD s34) (x0.getD i (0, ([], []))).2.2 ((heldD s34) (x0.getD i (0, ([], []))).2.1 ((x1 + ((ctL (Sh.ct s38) (List.take i x0) : Nat) : Int)) + 1)))), (4, aI 0), (5, aI (((i : Nat) : Int) + 1))], []⟩) { ts := [0, 1, 4, 5], os := [] } h (by kernel_rfl)
          exact ⟨i + 1, at_eq h (st_congr2 (fun (d0 : Int) (d1 : Int) => (⟨[(0, aF s38 x0), (1, aI d0), (4, aI 0), (5, aI d1)], []⟩ : St)) (show (((heldD s34) (x0.getD i (0, ([], []))).2.2 ((heldD s34) (x0.getD i (0, ([], []))).2.1 ((x1 + ((ctL (Sh.ct s38) (List.take i x0) : Nat) : Int)) + 1))) : Int) = (x1 + ((ctL (Sh.ct s38) (List.take (i + 1) x0) : Nat) : Int)) from by first | rfl | (omega)) (show (((i : Nat) : Int) + 1 : Int) = (((i + 1) : Nat) : Int) from by first | rfl | (omega))), (by exact ⟨by omega, mkL_step (z := (0, ([], []))) (by omega) hok0.2 (Prod.ext (by show ((x1 + ((ctL (Sh.ct s38) (List.take i x0) : Nat) : Int)) : Int) = (x0.getD i (0, ([], []))).1; omega) (Prod.ext ((congrArg (fun k => Sh.mk s34 (x0.getD i (0, ([], []))).2.1 k) (show ((x1 + ((ctL (Sh.ct s38) (List.take i x0) : Nat) : Int)) + ((1 : Nat) : Int) : Int) = _ from by first | rfl | omega)).trans hvh3.1) ((congrArg (fun k => Sh.mk s34 (x0.getD i (0, ([], []))).2.2 k) (show ((x1 + ((ctL (Sh.ct s38) (List.take i x0) : Nat) : Int)) + ((1 : Nat) : Int) + (((Sh.ct s34 (x0.getD i (0, ([], []))).2.1) : Nat) : Int) : Int) = _ from by first | rfl | omega)).trans hvh4.1)))⟩), (by omega)⟩
  · replace h1 : ¬ (((i : Nat) : Int) < ((List.length x0 : Nat) : Int)) := of_decide_eq_false h1
    refine wp_exit ?_
    refine then_exit ?_
    refine then_exit ?_
    refine in_hit ?_
    refine then_normal ?_
    refine wp_seq ?_
    refine at_reg (T := S_laws_heldCodedPacketS_tab) [] { ts := [4], os := [] } ⟨[(4, aI (x1 + ((ctL (Sh.ct s38) (List.take i x0) : Nat) : Int)))], []⟩ [] gamOK hT h (by kernel_rfl) trivial ?_
    intro a w h
    refine then_normal ?_
    refine wp_ret ?_
    exact at_return (S := S_laws_heldCodedPacketS) (x := (x0, x1, ())) ((x1 + ((ctL (Sh.ct s38) (List.take i x0) : Nat) : Int)), ()) [] h (by kernel_rfl) trivial (congrArg (fun z => (z, ())) (show ((x1 + ((ctL (Sh.ct s38) (List.take i x0) : Nat) : Int))) = (heldD s146) x0 x1 from by have e := hok0.2; rw [take_all (by omega)] at e; rw [heldD_pos (s := s146) e, hct0, take_all (by omega)]))

def S_laws_heldRecoderS : Sum := { fid := 148, dom := [s90, (.int 3)], cod := [(.int 3)], dp := true, fz := false, pre := fun x => (pMk s90) x.1 x.2.1, g := fun x => (((heldD s90) x.1 x.2.1), ()) }
def S_laws_heldRecoderS_tab : List (Nat × Sum) := [(183, S_laws_heldCodedPacketS)]
theorem S_laws_heldRecoderS_ok : FnOK Try.prog 148 S_laws_heldRecoderS := by
  refine at_enter 58 (fun x => ⟨[(0, aF s148 x.1), (1, aI x.2.1)], []⟩) Try.func148 rfl (by kernel_rfl) (fun x => rfl) ?_
  rintro w0 Z0 ⟨x0, x1, u⟩ a w
  revert x0 x1
  intro (x0 : (List T148)) (x1 : Int) hpre hlens h
  replace h : At w0 Z0 [] 58 ⟨[(0, aF s148 x0), (1, aI x1)], []⟩ a w := h
  replace hpre : (pMk s90) x0 x1 := hpre
  have hl1 : List.length x0 ≤ 9223372036854775807 := hlens.1.1
  have hT : TabOK Try.prog S_laws_heldRecoderS_tab := (.cons S_laws_heldCodedPacketS_ok .nil)
  have hp : 0 ≤ x1 ∧ x1 + ((Sh.ct s90 x0 : Nat) : Int) ≤ 4611686018427387904 := hpre
  have hct0 : Sh.ct s90 x0 = ctL (Sh.ct s148) x0 := rfl
  refine wp_seq ?_
  refine at_regq (T := S_laws_heldRecoderS_tab) [] { ts := [0, 1, 4], os := [] } [] gamOK hT h (by kernel_rfl) trivial ?_
  intro a w h
  refine then_normal ?_
  refine wp_seq ?_
  refine wp_seq ?_
  refine at_regq (T := S_laws_heldRecoderS_tab) [] { ts := [0, 1, 4, 5], os := [] } [] gamOK hT h (by kernel_rfl) trivial ?_
  intro a w h
  refine then_normal ?_
  refine wp_block ?_
  replace h := at_out (σ' := ⟨[(0, aF s148 x0), (1, aI x1), (4, aI 0), (5, aI 0)], []⟩) { ts := [0, 1, 4, 5], os := [] } h (by kernel_rfl)
  refine at_loop (fun i : Nat => (⟨[(0, aF s148 x0), (1, aI (x1 + ((ctL (Sh.ct s148) (List.take i x0) : Nat) : Int))), (4, aI 0), (5, aI ((i : Nat) : Int))], []⟩ : St)) (fun i => (i ≤ List.length x0 ∧ mkL (Sh.mk s148) (Sh.ct s148) x1 (x0.take i) = x0.take i)) (fun i => List.length x0 - i) (0) h (st_congr2 (fun (d0 : Int) (d1 : Int) => (⟨[(0, aF s148 x0), (1, aI d0), (4, aI 0), (5, aI d1)], []⟩ : St)) (show (x1 : Int) = (x1 + ((ctL (Sh.ct s148) (List.take (0) x0) : Nat) : Int)) from by first | rfl | (simp [ctL])) (show (0 : Int) = (((0) : Nat) : Int) from by first | rfl | (simp [ctL]))) (by exact ⟨Nat.zero_le _, by simp [mkL]⟩) ?_
  intro i a w hok0 h
  refine wp_seq ?_
  refine wp_seq ?_
  refine at_regq (T := S_laws_heldRecoderS_tab) [] { ts := [0, 1, 4, 5, 9], os := [] } [] gamOK hT h (by kernel_rfl) trivial ?_
  intro a w h
  refine then_normal ?_
  refine at_test (decide (((i : Nat) : Int) < ((List.length x0 : Nat) : Int))) h (by kernel_rfl) (fun h1 => ?_) (fun h1 => ?_)
  · replace h1 : ((i : Nat) : Int) < ((List.length x0 : Nat) : Int) := of_decide_eq_true h1
    have hat := ctL_at_le (c := Sh.ct s148) (xs := x0) (z := (0, (0, (0, ([], 0))))) (i := i) (by omega)
    have hsu := ctL_take_succ (c := Sh.ct s148) (xs := x0) (z := (0, (0, (0, ([], 0))))) (i := i) (by omega)
    have hci : Sh.ct s148 (x0.getD i (0, (0, (0, ([], 0))))) = (1 + (1 + (1 + ((Sh.ct s146 (x0.getD i (0, (0, (0, ([], 0))))).2.2.2.1) + 1)))) := rfl
    refine wp_skip ?_
    refine then_normal ?_
    refine wp_seq ?_
    refine wp_block ?_
    refine wp_seq ?_
    refine wp_seq ?_
    refine at_reg (T := S_laws_heldRecoderS_tab) [] { ts := [0, 1, 4, 5, 18], os := [] } ⟨[(0, aF s148 x0), (1, aI (x1 + ((ctL (Sh.ct s148) (List.take i x0) : Nat) : Int))), (4, aI 0), (5, aI ((i : Nat) : Int)), (18, aB (!decide ((x0.getD i (0, (0, (0, ([], 0))))).1 = (x1 + ((ctL (Sh.ct s148) (List.take i x0) : Nat) : Int)))))], []⟩ [(0 : Int) ≤ ((i : Nat) : Int) ∧ ((i : Nat) : Int) < ((List.length x0 : Nat) : Int)] gamOK hT h (by kernel_rfl) ⟨(by refine ⟨?_, ?_⟩ <;> (first | omega | (simp only [List.length_append, List.length_cons, List.length_nil, List.length_set, List.length_take, List.length_drop, List.length_replicate, List.length_map, Nat.min_def]; omega) | (simp; done) | (simp; omega) | done)), trivial⟩ ?_
    intro a w h
    refine then_normal ?_
    refine at_test (!decide ((x0.getD i (0, (0, (0, ([], 0))))).1 = (x1 + ((ctL (Sh.ct s148) (List.take i x0) : Nat) : Int)))) h (by kernel_rfl) (fun h2 => ?_) (fun h2 => ?_)
    · replace h2 : ¬ ((x0.getD i (0, (0, (0, ([], 0))))).1 = (x1 + ((ctL (Sh.ct s148) (List.take i x0) : Nat) : Int))) := by simpa using h2
      refine wp_seq ?_
      refine at_regq (T := S_laws_heldRecoderS_tab) [] { ts := [0, 1, 4, 5], os := [] } [] gamOK hT h (by kernel_rfl) trivial ?_
      intro a w h
      refine then_normal ?_
      refine wp_ret ?_
      refine then_ret ?_
      refine in_ret ?_
      refine then_ret ?_
      refine then_ret ?_
      refine in_ret ?_
      refine then_ret ?_
      exact at_return (S := S_laws_heldRecoderS) (x := (x0, x1, ())) ((-1), ()) [] h (by kernel_rfl) trivial (congrArg (fun z => (z, ())) (show ((-1)) = (heldD s90) x0 x1 from by refine (heldD_no (s := s90) (fun e => ?_)).symm; have e2 : (x1 + ((ctL (Sh.ct s148) (List.take i x0) : Nat) : Int)) = (x0.getD i (0, (0, (0, ([], 0))))).1 := congrArg (fun (y : T148) => y.1) (mkL_get (z := (0, (0, (0, ([], 0))))) (i := i) e (by omega)); omega))
    · replace h2 : (x0.getD i (0, (0, (0, ([], 0))))).1 = (x1 + ((ctL (Sh.ct s148) (List.take i x0) : Nat) : Int)) := by simpa using h2
      refine wp_skip ?_
      refine then_normal ?_
      refine wp_seq ?_
      refine at_regq (T := S_laws_heldRecoderS_tab) [{}, { nw := true }] { ts := [0, 1, 4, 5], os := [] } [I64 ((x1 + ((ctL (Sh.ct s148) (List.take i x0) : Nat) : Int)) + 1)] gamOK hT h (by kernel_rfl) ⟨⟨by first | omega | (simp only [List.length_append, List.length_cons, List.length_nil, List.length_set, List.length_take, List.length_drop, List.length_replicate, List.length_map, Nat.min_def]; omega) | (simp; done) | (simp; omega) | done, by first | omega | (simp only [List.length_append, List.length_cons, List.length_nil, List.length_set, List.length_take, List.length_drop, List.length_replicate, List.length_map, Nat.min_def]; omega) | (simp; done) | (simp; omega) | done⟩, trivial⟩ ?_
      intro a w h
      refine then_normal ?_
      refine wp_seq ?_
      refine wp_seq ?_
      refine at_regq (T := S_laws_heldRecoderS_tab) [] { ts := [0, 1, 4, 5, 27], os := [] } [(0 : Int) ≤ ((i : Nat) : Int) ∧ ((i : Nat) : Int) < ((List.length x0 : Nat) : Int)] gamOK hT h (by kernel_rfl) ⟨(by refine ⟨?_, ?_⟩ <;> (first | omega | (simp only [List.length_append, List.length_cons, List.length_nil, List.length_set, List.length_take, List.length_drop, List.length_replicate, List.length_map, Nat.min_def]; omega) | (simp; done) | (simp; omega) | done)), trivial⟩ ?_
      intro a w h
      refine then_normal ?_
      refine at_test (!decide ((x0.getD i (0, (0, (0, ([], 0))))).2.1 = (x1 + ((ctL (Sh.ct s148) (List.take i x0) : Nat) : Int)) + 1)) h (by kernel_rfl) (fun h3 => ?_) (fun h3 => ?_)
      · replace h3 : ¬ ((x0.getD i (0, (0, (0, ([], 0))))).2.1 = (x1 + ((ctL (Sh.ct s148) (List.take i x0) : Nat) : Int)) + 1) := by simpa using h3
        refine wp_seq ?_
        refine at_regq (T := S_laws_heldRecoderS_tab) [] { ts := [0, 1, 4, 5], os := [] } [] gamOK hT h (by kernel_rfl) trivial ?_
        intro a w h
        refine then_normal ?_
        refine wp_ret ?_
        refine then_ret ?_
        refine in_ret ?_
        refine then_ret ?_
        refine then_ret ?_
        refine in_ret ?_
        refine then_ret ?_
        exact at_return (S := S_laws_heldRecoderS) (x := (x0, x1, ())) ((-1), ()) [] h (by kernel_rfl) trivial (congrArg (fun z => (z, ())) (show ((-1)) = (heldD s90) x0 x1 from by refine (heldD_no (s := s90) (fun e => ?_)).symm; have e2 : (x1 + ((ctL (Sh.ct s148) (List.take i x0) : Nat) : Int)) + ((1 : Nat) : Int) = (x0.getD i (0, (0, (0, ([], 0))))).2.1 := congrArg (fun (y : T148) => y.2.1) (mkL_get (z := (0, (0, (0, ([], 0))))) (i := i) e (by omega)); omega))
      · replace h3 : (x0.getD i (0, (0, (0, ([], 0))))).2.1 = (x1 + ((ctL (Sh.ct s148) (List.take i x0) : Nat) : Int)) + 1 := by simpa using h3
        refine wp_skip ?_
        refine then_normal ?_
        refine wp_seq ?_
        refine at_regq (T := S_laws_heldRecoderS_tab) [{}, { nw := true }] { ts := [0, 1, 4, 5], os := [] } [I64 (((x1 + ((ctL (Sh.ct s148) (List.take i x0) : Nat) : Int)) + 1) + 1)] gamOK hT h (by kernel_rfl) ⟨⟨by first | omega | (simp only [List.length_append, List.length_cons, List.length_nil, List.length_set, List.length_take, List.length_drop, List.length_replicate, List.length_map, Nat.min_def]; omega) | (simp; done) | (simp; omega) | done, by first | omega | (simp only [List.length_append, List.length_cons, List.length_nil, List.length_set, List.length_take, List.length_drop, List.length_replicate, List.length_map, Nat.min_def]; omega) | (simp; done) | (simp; omega) | done⟩, trivial⟩ ?_
        intro a w h
        refine then_normal ?_
        refine wp_seq ?_
        refine wp_seq ?_
        refine at_reg (T := S_laws_heldRecoderS_tab) [] { ts := [0, 1, 4, 5, 36], os := [] } ⟨[(0, aF s148 x0), (1, aI (((x1 + ((ctL (Sh.ct s148) (List.take i x0) : Nat) : Int)) + 1) + 1)), (4, aI 0), (5, aI ((i : Nat) : Int)), (36, aB (!decide ((x0.getD i (0, (0, (0, ([], 0))))).2.2.1 = ((x1 + ((ctL (Sh.ct s148) (List.take i x0) : Nat) : Int)) + 1) + 1)))], []⟩ [(0 : Int) ≤ ((i : Nat) : Int) ∧ ((i : Nat) : Int) < ((List.length x0 : Nat) : Int)] gamOK hT h (by kernel_rfl) ⟨(by refine ⟨?_, ?_⟩ <;> (first | omega | (simp only [List.length_append, List.length_cons, List.length_nil, List.length_set, List.length_take, List.length_drop, List.length_replicate, List.length_map, Nat.min_def]; omega) | (simp; done) | (simp; omega) | done)), trivial⟩ ?_
        intro a w h
        refine then_normal ?_
        refine at_test (!decide ((x0.getD i (0, (0, (0, ([], 0))))).2.2.1 = ((x1 + ((ctL (Sh.ct s148) (List.take i x0) : Nat) : Int)) + 1) + 1)) h (by kernel_rfl) (fun h4 => ?_) (fun h4 => ?_)
        · replace h4 : ¬ ((x0.getD i (0, (0, (0, ([], 0))))).2.2.1 = ((x1 + ((ctL (Sh.ct s148) (List.take i x0) : Nat) : Int)) + 1) + 1) := by simpa using h4
          refine wp_seq ?_
          refine at_regq (T := S_laws_heldRecoderS_tab) [] { ts := [0, 1, 4, 5], os := [] } [] gamOK hT h (by kernel_rfl) trivial ?_
          intro a w h
          refine then_normal ?_
          refine wp_ret ?_
          refine then_ret ?_
          refine in_ret ?_
          refine then_ret ?_
          refine then_ret ?_
          refine in_ret ?_
          refine then_ret ?_
          exact at_return (S := S_laws_heldRecoderS) (x := (x0, x1, ())) ((-1), ()) [] h (by kernel_rfl) trivial (congrArg (fun z => (z, ())) (show ((-1)) = (heldD s90) x0 x1 from by refine (heldD_no (s := s90) (fun e => ?_)).symm; have e2 : (x1 + ((ctL (Sh.ct s148) (List.take i x0) : Nat) : Int)) + ((1 : Nat) : Int) + ((1 : Nat) : Int) = (x0.getD i (0, (0, (0, ([], 0))))).2.2.1 := congrArg (fun (y : T148) => y.2.2.1) (mkL_get (z := (0, (0, (0, ([], 0))))) (i := i) e (by omega)); omega))
        · replace h4 : (x0.getD i (0, (0, (0, ([], 0))))).2.2.1 = ((x1 + ((ctL (Sh.ct s148) (List.take i x0) : Nat) : Int)) + 1) + 1 := by simpa using h4
          refine wp_skip ?_
          refine then_normal ?_
          refine wp_seq ?_
          refine at_regq (T := S_laws_heldRecoderS_tab) [{}, { nw := true }] { ts := [0, 1, 4, 5], os := [] } [I64 ((((x1 + ((ctL (Sh.ct s148) (List.take i x0) : Nat) : Int)) + 1) + 1) + 1)] gamOK hT h (by kernel_rfl) ⟨⟨by first | omega | (simp only [List.length_append, List.length_cons, List.length_nil, List.length_set, List.length_take, List.length_drop, List.length_replicate, List.length_map, Nat.min_def]; omega) | (simp; done) | (simp; omega) | done, by first | omega | (simp only [List.length_append, List.length_cons, List.length_nil, List.length_set, List.length_take, List.length_drop, List.length_replicate, List.length_map, Nat.min_def]; omega) | (simp; done) | (simp; omega) | done⟩, trivial⟩ ?_
          intro a w h
          refine then_normal ?_
          refine wp_seq ?_
          refine at_regq (T := S_laws_heldRecoderS_tab) [] { ts := [0, 1, 4, 5], os := [] } [(0 : Int) ≤ ((i : Nat) : Int) ∧ ((i : Nat) : Int) < ((List.length x0 : Nat) : Int), (pMk s146) (x0.getD i (0, (0, (0, ([], 0))))).2.2.2.1 ((((x1 + ((ctL (Sh.ct s148) (List.take i x0) : Nat) : Int)) + 1) + 1) + 1)] gamOK hT h (by kernel_rfl) ⟨(by refine ⟨?_, ?_⟩ <;> (first | omega | (simp only [List.length_append, List.length_cons, List.length_nil, List.length_set, List.length_take, List.length_drop, List.length_replicate, List.length_map, Nat.min_def]; omega) | (simp; done) | (simp; omega) | done)), (by (first | (show (0 : Int) ≤ _ ∧ _ + ((Sh.ct _ _ : Nat) : Int) ≤ (4611686018427387904 : Int); constructor <;> omega) | (show (0 : Int) ≤ _ ∧ _ + ((Sh.ctT _ _ : Nat) : Int) ≤ (4611686018427387904 : Int); constructor <;> omega))), trivial⟩ ?_
          intro a w h
          refine then_normal ?_
          refine wp_seq ?_
          refine wp_seq ?_
          refine at_regq (T := S_laws_heldRecoderS_tab) [] { ts := [0, 1, 4, 5, 47], os := [] } [] gamOK hT h (by kernel_rfl) trivial ?_
          intro a w h
          refine then_normal ?_
          refine at_test (decide (((heldD s146) (x0.getD i (0, (0, (0, ([], 0))))).2.2.2.1 ((((x1 + ((ctL (Sh.ct s148) (List.take i x0) : Nat) : Int)) + 1) + 1) + 1)) < 0)) h (by kernel_rfl) (fun h5 => ?_) (fun h5 => ?_)
          · replace h5 : ((heldD s146) (x0.getD i (0, (0, (0, ([], 0))))).2.2.2.1 ((((x1 + ((ctL (Sh.ct s148) (List.take i x0) : Nat) : Int)) + 1) + 1) + 1)) < 0 := of_decide_eq_true h5
            have hvh5 := heldD_neg (by omega) h5
            refine wp_seq ?_
            refine at_reg (T := S_laws_heldRecoderS_tab) [] { ts := [0, 1, 4, 5], os := [] } ⟨[(0, aF s148 x0), (1, aI ((heldD s146) (x0.getD i (0, (0, (0, ([], 0))))).2.2.2.1 ((((x1 + ((ctL (Sh.ct s148) (List.take i x0) : Nat) : Int)) + 1) + 1) + 1))), (4, aI (-1)), (5, aI ((i : Nat) : Int))], []⟩ [] gamOK hT h (by kernel_rfl) trivial ?_
            intro a w h
            refine then_normal ?_
            refine wp_ret ?_
            refine then_ret ?_
            refine in_ret ?_
            refine then_ret ?_
            refine then_ret ?_
            refine in_ret ?_
            refine then_ret ?_
            exact at_return (S := S_laws_heldRecoderS) (x := (x0, x1, ())) ((-1), ()) [] h (by kernel_rfl) trivial (congrArg (fun z => (z, ())) (show ((-1)) = (heldD s90) x0 x1 from by refine (heldD_no (s := s90) (fun e => ?_)).symm; have e2 : Sh.mk s146 (x0.getD i (0, (0, (0, ([], 0))))).2.2.2.1 ((x1 + ((ctL (Sh.ct s148) (List.take i x0) : Nat) : Int)) + ((1 : Nat) : Int) + ((1 : Nat) : Int) + ((1 : Nat) : Int)) = (x0.getD i (0, (0, (0, ([], 0))))).2.2.2.1 := congrArg (fun (y : T148) => y.2.2.2.1) (mkL_get (z := (0, (0, (0, ([], 0))))) (i := i) e (by omega)); exact hvh5 ((congrArg (fun k => Sh.mk s146 (x0.getD i (0, (0, (0, ([], 0))))).2.2.2.1 k) (show (_ : Int) = (x1 + ((ctL (Sh.ct s148) (List.take i x0) : Nat) : Int)) + ((1 : Nat) : Int) + ((1 : Nat) : Int) + ((1 : Nat) : Int) from by first | rfl | omega)).trans e2)))
          · replace h5 : ¬ (((heldD s146) (x0.getD i (0, (0, (0, ([], 0))))).2.2.2.1 ((((x1 + ((ctL (Sh.ct s148) (List.take i x0) : Nat) : Int)) + 1) + 1) + 1)) < 0) := of_decide_eq_false h5
            have hvh5 := heldD_val h5
            refine wp_skip ?_
            refine then_normal ?_
            refine wp_seq ?_
            refine wp_seq ?_
            refine at_reg (T := S_laws_heldRecoderS_tab) [] { ts := [0, 1, 4, 5, 54], os := [] } ⟨[(0, aF s148 x0), (1, aI ((heldD s146) (x0.getD i (0, (0, (0, ([], 0))))).2.2.2.1 ((((x1 + ((ctL (Sh.ct s148) (List.take i x0) : Nat) : Int)) + 1) + 1) + 1))), (4, aI 0), (5, aI ((i : Nat) : Int)), (54, aB (!decide ((x0.getD i (0, (0, (0, ([], 0))))).2.2.2.2 = ((heldD s146) (x0.getD i (0, (0, (0, ([], 0))))).2.2.2.1 ((((x1 + ((ctL (Sh.ct s148) (List.take i x0) : Nat) : Int)) + 1) + 1) + 1)))))], []⟩ [(0 : Int) ≤ ((i : Nat) : Int) ∧ ((i : Nat) : Int) < ((List.length x0 : Nat) : Int)] gamOK hT h (by kernel_rfl) ⟨(by refine ⟨?_, ?_⟩ <;> (first | omega | (simp only [List.length_append, List.length_cons, List.length_nil, List.length_set, List.length_take, List.length_drop, List.length_replicate, List.length_map, Nat.min_def]; omega) | (simp; done) | (simp; omega) | done)), trivial⟩ ?_
            intro a w h
            refine then_normal ?_
            refine at_test (!decide ((x0.getD i (0, (0, (0, ([], 0))))).2.2.2.2 = ((heldD s146) (x0.getD i (0, (0, (0, ([], 0))))).2.2.2.1 ((((x1 + ((ctL (Sh.ct s148) (List.take i x0) : Nat) : Int)) + 1) + 1) + 1)))) h (by kernel_rfl) (fun h6 => ?_) (fun h6 => ?_)
            · replace h6 : ¬ ((x0.getD i (0, (0, (0, ([], 0))))).2.2.2.2 = ((heldD s146) (x0.getD i (0, (0, (0, ([], 0))))).2.2.2.1 ((((x1 + ((ctL (Sh.ct s148) (List.take i x0) : Nat) : Int)) + 1) + 1) + 1))) := by simpa using h6
              refine wp_seq ?_
              refine at_regq (T := S_laws_heldRecoderS_tab) [] { ts := [0, 1, 4, 5], os := [] } [] gamOK hT h (by kernel_rfl) trivial ?_
              intro a w h
              refine then_normal ?_
              refine wp_ret ?_
              refine then_ret ?_
              refine in_ret ?_
              refine then_ret ?_
              refine then_ret ?_
              refine in_ret ?_
              refine then_ret ?_
              exact at_return (S := S_laws_heldRecoderS) (x := (x0, x1, ())) ((-1), ()) [] h (by kernel_rfl) trivial (congrArg (fun z => (z, ())) (show ((-1)) = (heldD s90) x0 x1 from by refine (heldD_no (s := s90) (fun e => ?_)).symm; have e2 : (x1 + ((ctL (Sh.ct s148) (List.take i x0) : Nat) : Int)) + ((1 : Nat) : Int) + ((1 : Nat) : Int) + ((1 : Nat) : Int) + (((Sh.ct s146 (x0.getD i (0, (0, (0, ([], 0))))).2.2.2.1) : Nat) : Int) = (x0.getD i (0, (0, (0, ([], 0))))).2.2.2.2 := congrArg (fun (y : T148) => y.2.2.2.2) (mkL_get (z := (0, (0, (0, ([], 0))))) (i := i) e (by omega)); omega))
            · replace h6 : (x0.getD i (0, (0, (0, ([], 0))))).2.2.2.2 = ((heldD s146) (x0.getD i (0, (0, (0, ([], 0))))).2.2.2.1 ((((x1 + ((ctL (Sh.ct s148) (List.take i x0) : Nat) : Int)) + 1) + 1) + 1)) := by simpa using h6
              refine wp_skip ?_
              refine then_normal ?_
              refine at_regq (T := S_laws_heldRecoderS_tab) [{}, { nw := true }] { ts := [0, 1, 4, 5], os := [] } [I64 (((heldD s146) (x0.getD i (0, (0, (0, ([], 0))))).2.2.2.1 ((((x1 + ((ctL (Sh.ct s148) (List.take i x0) : Nat) : Int)) + 1) + 1) + 1)) + 1)] gamOK hT h (by kernel_rfl) ⟨⟨by first | omega | (simp only [List.length_append, List.length_cons, List.length_nil, List.length_set, List.length_take, List.length_drop, List.length_replicate, List.length_map, Nat.min_def]; omega) | (simp; done) | (simp; omega) | done, by first | omega | (simp only [List.length_append, List.length_cons, List.length_nil, List.length_set, List.length_take, List.length_drop, List.length_replicate, List.length_map, Nat.min_def]; omega) | (simp; done) | (simp; omega) | done⟩, trivial⟩ ?_
              intro a w h
              refine in_normal ?_
              refine then_normal ?_
              refine at_regq (T := S_laws_heldRecoderS_tab) [{}, { nw := true }] { ts := [0, 1, 4, 5], os := [] } [I64 (((i : Nat) : Int) + 1)] gamOK hT h (by kernel_rfl) ⟨⟨by first | omega | (simp only [List.length_append, List.length_cons, List.length_nil, List.length_set, List.length_take, List.length_drop, List.length_replicate, List.length_map, Nat.min_def]; omega) | (simp; done) | (simp; omega) | done, by first | omega | (simp only [List.length_append, List.length_cons, List.length_nil, List.length_set, List.length_take, List.length_drop, List.length_replicate, List.length_map, Nat.min_def]; omega) | (simp; done) | (simp; omega) | done⟩, trivial⟩ ?_
              intro a w h
              replace h := at_out (σ' := ⟨[(0, aF s148 x0), (1, aI (((heldD s146) (x0.getD i (0, (0, (0, ([], 0))))).2.2.2.1 ((((x1 + ((ctL (Sh.ct s148) (List.take i x0) : Nat) : Int)) + 1) + 1) + 1)) + 1)), (4, aI 0), (5, aI (((i : Nat) : Int) + 1))], []⟩) { ts := [0, 1, 4, 5], os := [] } h (by kernel_rfl)
              exact ⟨i + 1, at_eq h (st_congr2 (fun (d0 : Int) (d1 : Int) => (⟨[(0, aF s148 x0), (1, aI d0), (4, aI 0), (5, aI d1)], []⟩ : St)) (show (((heldD s146) (x0.getD i (0, (0, (0, ([], 0))))).2.2.2.1 ((((x1 + ((ctL (Sh.ct s148) (List.take i x0) : Nat) : Int)) + 1) + 1) + 1)) + 1 : Int) = (x1 + ((ctL (Sh.ct s148) (List.take (i + 1) x0) : Nat) : Int)) from by first | rfl | (omega)) (show (((i : Nat) : Int) + 1 : Int) = (((i + 1) : Nat) : Int) from by first | rfl | (omega))), (by exact ⟨by omega, mkL_step (z := (0, (0, (0, ([], 0))))) (by omega) hok0.2 (Prod.ext (by show ((x1 + ((ctL (Sh.ct s148) (List.take i x0) : Nat) : Int)) : Int) = (x0.getD i (0, (0, (0, ([], 0))))).1; omega) (Prod.ext (by show ((x1 + ((ctL (Sh.ct s148) (List.take i x0) : Nat) : Int)) + ((1 : Nat) : Int) : Int) = (x0.getD i (0, (0, (0, ([], 0))))).2.1; omega) (Prod.ext (by show ((x1 + ((ctL (Sh.ct s148) (List.take i x0) : Nat) : Int)) + ((1 : Nat) : Int) + ((1 : Nat) : Int) : Int) = (x0.getD i (0, (0, (0, ([], 0))))).2.2.1; omega) (Prod.ext ((congrArg (fun k => Sh.mk s146 (x0.getD i (0, (0, (0, ([], 0))))).2.2.2.1 k) (show ((x1 + ((ctL (Sh.ct s148) (List.take i x0) : Nat) : Int)) + ((1 : Nat) : Int) + ((1 : Nat) : Int) + ((1 : Nat) : Int) : Int) = _ from by first | rfl | omega)).trans hvh5.1) (by show ((x1 + ((ctL (Sh.ct s148) (List.take i x0) : Nat) : Int)) + ((1 : Nat) : Int) + ((1 : Nat) : Int) + ((1 : Nat) : Int) + (((Sh.ct s146 (x0.getD i (0, (0, (0, ([], 0))))).2.2.2.1) : Nat) : Int) : Int) = (x0.getD i (0, (0, (0, ([], 0))))).2.2.2.2; omega)))))⟩), (by omega)⟩
  · replace h1 : ¬ (((i : Nat) : Int) < ((List.length x0 : Nat) : Int)) := of_decide_eq_false h1
    refine wp_exit ?_
    refine then_exit ?_
    refine then_exit ?_
    refine in_hit ?_
    refine then_normal ?_
    refine wp_seq ?_
    refine at_reg (T := S_laws_heldRecoderS_tab) [] { ts := [4], os := [] } ⟨[(4, aI (x1 + ((ctL (Sh.ct s148) (List.take i x0) : Nat) : Int)))], []⟩ [] gamOK hT h (by kernel_rfl) trivial ?_
    intro a w h
    refine then_normal ?_
    refine wp_ret ?_
    exact at_return (S := S_laws_heldRecoderS) (x := (x0, x1, ())) ((x1 + ((ctL (Sh.ct s148) (List.take i x0) : Nat) : Int)), ()) [] h (by kernel_rfl) trivial (congrArg (fun z => (z, ())) (show ((x1 + ((ctL (Sh.ct s148) (List.take i x0) : Nat) : Int))) = (heldD s90) x0 x1 from by have e := hok0.2; rw [take_all (by omega)] at e; rw [heldD_pos (s := s90) e, hct0, take_all (by omega)]))

def S_laws_heldRelay : Sum := { fid := 78, dom := [s92, (.int 3)], cod := [(.int 3)], dp := true, fz := false, pre := fun x => (pMkT s92) x.1 x.2.1, g := fun x => (((heldDT s92) x.1 x.2.1), ()) }
def S_laws_heldRelay_tab : List (Nat × Sum) := [(148, S_laws_heldRecoderS)]
theorem S_laws_heldRelay_ok : FnOK Try.prog 78 S_laws_heldRelay := by
  refine at_enter 12 (fun x => ⟨[(0, aG [cI x.1.1, .ro s148 x.1.2]), (1, aI x.2.1)], []⟩) Try.func78 rfl (by kernel_rfl) (fun x => rfl) ?_
  rintro w0 Z0 ⟨x0, x1, u⟩ a w
  revert x0 x1
  intro (x0 : T92) (x1 : Int) hpre hlens h
  replace h : At w0 Z0 [] 12 ⟨[(0, aG [cI x0.1, .ro s148 x0.2]), (1, aI x1)], []⟩ a w := h
  replace hpre : (pMkT s92) x0 x1 := hpre
  have hl1 : List.length x0.2 ≤ 9223372036854775807 := hlens.1.2.1
  have hT : TabOK Try.prog S_laws_heldRelay_tab := (.cons S_laws_heldRecoderS_ok .nil)
  have hp : 0 ≤ x1 ∧ x1 + ((Sh.ctT s92 x0 : Nat) : Int) ≤ 4611686018427387904 := hpre
  have hct0 : Sh.ctT s92 x0 = (0 + (Sh.ct s90 x0.2)) := rfl
  refine wp_seq ?_
  refine at_regq (T := S_laws_heldRelay_tab) [{ ids := [1] }] { ts := [1, 2, 4], os := [1] } [] gamOK hT h (by kernel_rfl) trivial ?_
  intro a w h
  refine then_normal ?_
  refine wp_seq ?_
  refine at_regq (T := S_laws_heldRelay_tab) [] { ts := [1, 4], os := [] } [(pMk s90) x0.2 x1] gamOK hT h (by kernel_rfl) ⟨(by (first | (show (0 : Int) ≤ _ ∧ _ + ((Sh.ct _ _ : Nat) : Int) ≤ (4611686018427387904 : Int); constructor <;> omega) | (show (0 : Int) ≤ _ ∧ _ + ((Sh.ctT _ _ : Nat) : Int) ≤ (4611686018427387904 : Int); constructor <;> omega))), trivial⟩ ?_
  intro a w h
  refine then_normal ?_
  refine wp_seq ?_
  refine wp_seq ?_
  refine at_regq (T := S_laws_heldRelay_tab) [] { ts := [1, 4, 10], os := [] } [] gamOK hT h (by kernel_rfl) trivial ?_
  intro a w h
  refine then_normal ?_
  refine at_test (decide (((heldD s90) x0.2 x1) < 0)) h (by kernel_rfl) (fun h1 => ?_) (fun h1 => ?_)
  · replace h1 : ((heldD s90) x0.2 x1) < 0 := of_decide_eq_true h1
    have hvh1 := heldD_neg (by omega) h1
    refine wp_seq ?_
    refine at_reg (T := S_laws_heldRelay_tab) [] { ts := [1, 4], os := [] } ⟨[(1, aI ((heldD s90) x0.2 x1)), (4, aI (-1))], []⟩ [] gamOK hT h (by kernel_rfl) trivial ?_
    intro a w h
    refine then_normal ?_
    refine wp_ret ?_
    refine then_ret ?_
    exact at_return (S := S_laws_heldRelay) (x := (x0, x1, ())) ((-1), ()) [] h (by kernel_rfl) trivial (congrArg (fun z => (z, ())) (show ((-1)) = (heldDT s92) x0 x1 from by refine (heldDT_no (s := s92) (fun e => ?_)).symm; have e2 : Sh.mk s90 x0.2 (x1 + ((0 : Nat) : Int)) = x0.2 := (congrArg (fun (y : T92) => y.2) e); exact hvh1 ((congrArg (fun k => Sh.mk s90 x0.2 k) (show (_ : Int) = x1 + ((0 : Nat) : Int) from by first | rfl | omega)).trans e2)))
  · replace h1 : ¬ (((heldD s90) x0.2 x1) < 0) := of_decide_eq_false h1
    have hvh1 := heldD_val h1
    refine wp_skip ?_
    refine then_normal ?_
    refine wp_seq ?_
    refine at_reg (T := S_laws_heldRelay_tab) [] { ts := [4], os := [] } ⟨[(4, aI ((heldD s90) x0.2 x1))], []⟩ [] gamOK hT h (by kernel_rfl) trivial ?_
    intro a w h
    refine then_normal ?_
    refine wp_ret ?_
    exact at_return (S := S_laws_heldRelay) (x := (x0, x1, ())) (((heldD s90) x0.2 x1), ()) [] h (by kernel_rfl) trivial (congrArg (fun z => (z, ())) (show (((heldD s90) x0.2 x1)) = (heldDT s92) x0 x1 from by rw [heldDT_pos (s := s92) (show Sh.mkT s92 x0 x1 = x0 from (Prod.ext rfl ((congrArg (fun k => Sh.mk s90 x0.2 k) (show (x1 + ((0 : Nat) : Int) : Int) = _ from by first | rfl | omega)).trans hvh1.1)))]; omega))

def S_laws_markIntS : Sum := { fid := 37, dom := [s34, (.int 3)], cod := [(.int 3)], dp := true, fz := false, pre := fun x => (pMk s34) x.1 x.2.1, g := fun x => (((mkK s34) x.1 x.2.1), ()), kinds := [.io, .rd], upd := fun x => ((Sh.mk s34) x.1 x.2.1, (x.2.1, ())) }
def S_laws_markIntS_tab : List (Nat × Sum) := []
theorem S_laws_markIntS_ok : FnOK Try.prog 37 S_laws_markIntS := by
  refine at_enterI 19 [1] [2] (fun us x => ⟨[(0, aS 1), (1, aI x.2.1)], [(1, oR (.int 3) x.1), (2, oP 1 (S_laws_markIntS.hd us 0))]⟩) Try.func37 rfl (by kernel_rfl) (fun us x => rfl) ?_
  rintro w0 Z0 us ⟨x0, x1, u⟩ L a w
  revert x0 x1
  intro (x0 : (List Int)) (x1 : Int) hio hpre hlens h
  replace h : At w0 Z0 L 19 ⟨[(0, aS 1), (1, aI x1)], [(1, oR (.int 3) x0), (2, oP 1 (S_laws_markIntS.hd us 0))]⟩ a w := h
  replace hpre : (pMk s34) x0 x1 := hpre
  have hl1 : List.length x0 ≤ 9223372036854775807 := hlens.1.1
  have hT : TabOK Try.prog S_laws_markIntS_tab := .nil
  have hp : 0 ≤ x1 ∧ x1 + ((Sh.ct s34 x0 : Nat) : Int) ≤ 4611686018427387904 := hpre
  have hct0 : Sh.ct s34 x0 = ctL (Sh.ct (.int 3)) x0 := rfl
  refine wp_seq ?_
  refine at_regq (T := S_laws_markIntS_tab) [] { ts := [0, 1, 4], os := [1, 2] } [] gamOK hT h (by kernel_rfl) trivial ?_
  intro a w h
  refine then_normal ?_
  refine wp_seq ?_
  refine wp_seq ?_
  refine at_regq (T := S_laws_markIntS_tab) [] { ts := [0, 1, 4, 5], os := [1, 2] } [] gamOK hT h (by kernel_rfl) trivial ?_
  intro a w h
  refine then_normal ?_
  refine wp_block ?_
  replace h := at_out (σ' := ⟨[(0, aS 1), (1, aI x1), (4, aI 0), (5, aI 0)], [(1, oR (.int 3) x0), (2, oP 1 (S_laws_markIntS.hd us 0))]⟩) { ts := [0, 1, 4, 5], os := [1, 2] } h (by kernel_rfl)
  refine at_loop (fun i : Nat => (⟨[(0, aS 1), (1, aI (x1 + ((ctL (Sh.ct (.int 3)) (List.take i x0) : Nat) : Int))), (4, aI 0), (5, aI ((i : Nat) : Int))], [(1, oR (.int 3) (mkAt (Sh.mk (.int 3)) (Sh.ct (.int 3)) x1 x0 i)), (2, oP 1 (S_laws_markIntS.hd us 0))]⟩ : St)) (fun i => i ≤ List.length x0) (fun i => List.length x0 - i) (0) h (st_congr3 (fun (d0 : List Int) (d1 : Int) (d2 : Int) => (⟨[(0, aS 1), (1, aI d1), (4, aI 0), (5, aI d2)], [(1, oR (.int 3) d0), (2, oP 1 (S_laws_markIntS.hd us 0))]⟩ : St)) (show (x0 : List Int) = (mkAt (Sh.mk (.int 3)) (Sh.ct (.int 3)) x1 x0 (0)) from by first | rfl | (first | exact mkAt_zero.symm | simp [ctL])) (show (x1 : Int) = (x1 + ((ctL (Sh.ct (.int 3)) (List.take (0) x0) : Nat) : Int)) from by first | rfl | (first | exact mkAt_zero.symm | simp [ctL])) (show (0 : Int) = (((0) : Nat) : Int) from by first | rfl | (first | exact mkAt_zero.symm | simp [ctL]))) (by omega) ?_
  intro i a w hok0 h
  refine wp_seq ?_
  refine wp_seq ?_
  refine at_regq (T := S_laws_markIntS_tab) [] { ts := [0, 1, 4, 5, 9], os := [1, 2] } [] gamOK hT h (by kernel_rfl) trivial ?_
  intro a w h
  refine then_normal ?_
  refine at_test (decide (((i : Nat) : Int) < ((List.length (mkAt (Sh.mk (.int 3)) (Sh.ct (.int 3)) x1 x0 i) : Nat) : Int))) h (by kernel_rfl) (fun h1 => ?_) (fun h1 => ?_)
  · replace h1 : ((i : Nat) : Int) < ((List.length (mkAt (Sh.mk (.int 3)) (Sh.ct (.int 3)) x1 x0 i) : Nat) : Int) := of_decide_eq_true h1
    have hml : List.length (mkAt (Sh.mk (.int 3)) (Sh.ct (.int 3)) x1 x0 i) = List.length x0 := mkAt_len
    rw [hml] at h1
    have hat := ctL_at_le (c := Sh.ct (.int 3)) (xs := x0) (z := 0) (i := i) (by omega)
    have hsu := ctL_take_succ (c := Sh.ct (.int 3)) (xs := x0) (z := 0) (i := i) (by omega)
    have hci : Sh.ct (.int 3) (x0.getD i 0) = 1 := rfl
    have hge : List.getD (mkAt (Sh.mk (.int 3)) (Sh.ct (.int 3)) x1 x0 i) i 0 = (x0.getD i 0) := mkAt_get (by omega)
    refine wp_skip ?_
    refine then_normal ?_
    refine wp_seq ?_
    refine wp_block ?_
    refine wp_seq ?_
    refine at_reg (T := S_laws_markIntS_tab) [] { ts := [0, 1, 4, 5], os := [1, 2] } ⟨[(0, aS 1), (1, aI (x1 + ((ctL (Sh.ct (.int 3)) (List.take i x0) : Nat) : Int))), (4, aI 0), (5, aI ((i : Nat) : Int))], [(1, oR (.int 3) (List.set (mkAt (Sh.mk (.int 3)) (Sh.ct (.int 3)) x1 x0 i) i (x1 + ((ctL (Sh.ct (.int 3)) (List.take i x0) : Nat) : Int)))), (2, oP 1 (S_laws_markIntS.hd us 0))]⟩ [(0 : Int) ≤ ((i : Nat) : Int) ∧ ((i : Nat) : Int) < ((List.length (mkAt (Sh.mk (.int 3)) (Sh.ct (.int 3)) x1 x0 i) : Nat) : Int), i < List.length (mkAt (Sh.mk (.int 3)) (Sh.ct (.int 3)) x1 x0 i)] gamOK hT h (by kernel_rfl) ⟨(by refine ⟨?_, ?_⟩ <;> (first | omega | ((try simp only [hge, mkK]); omega) | (simp only [List.length_append, List.length_cons, List.length_nil, List.length_set, List.length_take, List.length_drop, List.length_replicate, List.length_map, Nat.min_def, mkAt_len]; omega) | (simp; done) | (simp; omega))), (by first | omega | ((try simp only [hge, mkK]); omega) | (simp only [List.length_append, List.length_cons, List.length_nil, List.length_set, List.length_take, List.length_drop, List.length_replicate, List.length_map, Nat.min_def, mkAt_len]; omega) | (simp; done) | (simp; omega)), trivial⟩ ?_
    intro a w h
    refine then_normal ?_
    refine at_regq (T := S_laws_markIntS_tab) [{}, { nw := true }] { ts := [0, 1, 4, 5], os := [1, 2] } [I64 ((x1 + ((ctL (Sh.ct (.int 3)) (List.take i x0) : Nat) : Int)) + 1)] gamOK hT h (by kernel_rfl) ⟨⟨by first | omega | ((try simp only [hge, mkK]); omega) | (simp only [List.length_append, List.length_cons, List.length_nil, List.length_set, List.length_take, List.length_drop, List.length_replicate, List.length_map, Nat.min_def, mkAt_len]; omega) | (simp; done) | (simp; omega), by first | omega | ((try simp only [hge, mkK]); omega) | (simp only [List.length_append, List.length_cons, List.length_nil, List.length_set, List.length_take, List.length_drop, List.length_replicate, List.length_map, Nat.min_def, mkAt_len]; omega) | (simp; done) | (simp; omega)⟩, trivial⟩ ?_
    intro a w h
    refine in_normal ?_
    refine then_normal ?_
    refine at_regq (T := S_laws_markIntS_tab) [{}, { nw := true }] { ts := [0, 1, 4, 5], os := [1, 2] } [I64 (((i : Nat) : Int) + 1)] gamOK hT h (by kernel_rfl) ⟨⟨by first | omega | ((try simp only [hge, mkK]); omega) | (simp only [List.length_append, List.length_cons, List.length_nil, List.length_set, List.length_take, List.length_drop, List.length_replicate, List.length_map, Nat.min_def, mkAt_len]; omega) | (simp; done) | (simp; omega), by first | omega | ((try simp only [hge, mkK]); omega) | (simp only [List.length_append, List.length_cons, List.length_nil, List.length_set, List.length_take, List.length_drop, List.length_replicate, List.length_map, Nat.min_def, mkAt_len]; omega) | (simp; done) | (simp; omega)⟩, trivial⟩ ?_
    intro a w h
    replace h := at_out (σ' := ⟨[(0, aS 1), (1, aI ((x1 + ((ctL (Sh.ct (.int 3)) (List.take i x0) : Nat) : Int)) + 1)), (4, aI 0), (5, aI (((i : Nat) : Int) + 1))], [(1, oR (.int 3) (List.set (mkAt (Sh.mk (.int 3)) (Sh.ct (.int 3)) x1 x0 i) i (x1 + ((ctL (Sh.ct (.int 3)) (List.take i x0) : Nat) : Int)))), (2, oP 1 (S_laws_markIntS.hd us 0))]⟩) { ts := [0, 1, 4, 5], os := [1, 2] } h (by kernel_rfl)
    skip
    exact ⟨i + 1, at_eq h (st_congr3 (fun (d0 : List Int) (d1 : Int) (d2 : Int) => (⟨[(0, aS 1), (1, aI d1), (4, aI 0), (5, aI d2)], [(1, oR (.int 3) d0), (2, oP 1 (S_laws_markIntS.hd us 0))]⟩ : St)) (show ((List.set (mkAt (Sh.mk (.int 3)) (Sh.ct (.int 3)) x1 x0 i) i (x1 + ((ctL (Sh.ct (.int 3)) (List.take i x0) : Nat) : Int))) : List Int) = (mkAt (Sh.mk (.int 3)) (Sh.ct (.int 3)) x1 x0 (i + 1)) from by first | rfl | (refine mkAt_set' (z := 0) (by omega) ?_; first | (simp only [hge, mkK]; done) | ((try simp only [hge, mkK]); show _ = Sh.mk (.int 3) (x0.getD i 0) _; exact (by show (_ : Int) = _; first | rfl | omega)))) (show ((x1 + ((ctL (Sh.ct (.int 3)) (List.take i x0) : Nat) : Int)) + 1 : Int) = (x1 + ((ctL (Sh.ct (.int 3)) (List.take (i + 1) x0) : Nat) : Int)) from by first | rfl | (((try simp only [hge, mkK]); omega))) (show (((i : Nat) : Int) + 1 : Int) = (((i + 1) : Nat) : Int) from by first | rfl | (omega))), (by first | omega | (refine ⟨?_, ?_⟩ <;> omega)), (by omega)⟩
  · replace h1 : ¬ (((i : Nat) : Int) < ((List.length (mkAt (Sh.mk (.int 3)) (Sh.ct (.int 3)) x1 x0 i) : Nat) : Int)) := of_decide_eq_false h1
    have hml : List.length (mkAt (Sh.mk (.int 3)) (Sh.ct (.int 3)) x1 x0 i) = List.length x0 := mkAt_len
    rw [hml] at h1
    refine wp_exit ?_
    refine then_exit ?_
    refine then_exit ?_
    refine in_hit ?_
    refine then_normal ?_
    refine wp_seq ?_
    refine at_reg (T := S_laws_markIntS_tab) [] { ts := [4], os := [1, 2] } ⟨[(4, aI (x1 + ((ctL (Sh.ct (.int 3)) (List.take i x0) : Nat) : Int)))], [(1, oR (.int 3) (mkAt (Sh.mk (.int 3)) (Sh.ct (.int 3)) x1 x0 i)), (2, oP 1 (S_laws_markIntS.hd us 0))]⟩ [] gamOK hT h (by kernel_rfl) trivial ?_
    intro a w h
    refine then_normal ?_
    refine wp_ret ?_
    exact at_returnI (S := S_laws_markIntS) (x := (x0, x1, ())) [1] [2] ((mkAt (Sh.mk (.int 3)) (Sh.ct (.int 3)) x1 x0 i), (x1, ())) (some ((x1 + ((ctL (Sh.ct (.int 3)) (List.take i x0) : Nat) : Int)), ())) [S_laws_markIntS.hd us 0 = S_laws_markIntS.hd us 0] hio h (by kernel_rfl) ⟨rfl, trivial⟩ (by first | rfl | (show ((mkAt (Sh.mk (.int 3)) (Sh.ct (.int 3)) x1 x0 i), (x1, ())) = ((Sh.mk s34) x0 x1, (x1, ())); rw [show ((mkAt (Sh.mk (.int 3)) (Sh.ct (.int 3)) x1 x0 i) : (List Int)) = (Sh.mk s34) x0 x1 from by exact mkAt_all (by omega)])) (fun z e => (Option.some.inj e) ▸ (congrArg (fun z => (z, ())) (show ((x1 + ((ctL (Sh.ct (.int 3)) (List.take i x0) : Nat) : Int))) = (mkK s34) x0 x1 from by (unfold mkK; rw [take_all (by omega)]; rfl))))

def S_laws_markCodedPacketS : Sum := { fid := 170, dom := [s146, (.int 3)], cod := [(.int 3)], dp := true, fz := false, pre := fun x => (pMk s146) x.1 x.2.1, g := fun x => (((mkK s146) x.1 x.2.1), ()), kinds := [.io, .rd], upd := fun x => ((Sh.mk s146) x.1 x.2.1, (x.2.1, ())) }
def S_laws_markCodedPacketS_tab : List (Nat × Sum) := [(37, S_laws_markIntS)]
theorem S_laws_markCodedPacketS_ok : FnOK Try.prog 170 S_laws_markCodedPacketS := by
  refine at_enterI 34 [1] [2] (fun us x => ⟨[(0, aS 1), (1, aI x.2.1)], [(1, oR s38 x.1), (2, oP 1 (S_laws_markCodedPacketS.hd us 0))]⟩) Try.func170 rfl (by kernel_rfl) (fun us x => rfl) ?_
  rintro w0 Z0 us ⟨x0, x1, u⟩ L a w
  revert x0 x1
  intro (x0 : (List T38)) (x1 : Int) hio hpre hlens h
  replace h : At w0 Z0 L 34 ⟨[(0, aS 1), (1, aI x1)], [(1, oR s38 x0), (2, oP 1 (S_laws_markCodedPacketS.hd us 0))]⟩ a w := h
  replace hpre : (pMk s146) x0 x1 := hpre
  have hl1 : List.length x0 ≤ 9223372036854775807 := hlens.1.1
  have hT : TabOK Try.prog S_laws_markCodedPacketS_tab := (.cons S_laws_markIntS_ok .nil)
  have hp : 0 ≤ x1 ∧ x1 + ((Sh.ct s146 x0 : Nat) : Int) ≤ 4611686018427387904 := hpre
  have hct0 : Sh.ct s146 x0 = ctL (Sh.ct s38) x0 := rfl
  refine wp_seq ?_
  refine at_regq (T := S_laws_markCodedPacketS_tab) [] { ts := [0, 1, 4], os := [1, 2] } [] gamOK hT h (by kernel_rfl) trivial ?_
  intro a w h
  refine then_normal ?_
  refine wp_seq ?_
  refine wp_seq ?_
  refine at_regq (T := S_laws_markCodedPacketS_tab) [] { ts := [0, 1, 4, 5], os := [1, 2] } [] gamOK hT h (by kernel_rfl) trivial ?_
  intro a w h
  refine then_normal ?_
  refine wp_block ?_
  replace h := at_out (σ' := ⟨[(0, aS 1), (1, aI x1), (4, aI 0), (5, aI 0)], [(1, oR s38 x0), (2, oP 1 (S_laws_markCodedPacketS.hd us 0))]⟩) { ts := [0, 1, 4, 5], os := [1, 2] } h (by kernel_rfl)
  refine at_loop (fun i : Nat => (⟨[(0, aS 1), (1, aI (x1 + ((ctL (Sh.ct s38) (List.take i x0) : Nat) : Int))), (4, aI 0), (5, aI ((i : Nat) : Int))], [(1, oR s38 (mkAt (Sh.mk s38) (Sh.ct s38) x1 x0 i)), (2, oP 1 (S_laws_markCodedPacketS.hd us 0))]⟩ : St)) (fun i => i ≤ List.length x0) (fun i => List.length x0 - i) (0) h (st_congr3 (fun (d0 : List T38) (d1 : Int) (d2 : Int) => (⟨[(0, aS 1), (1, aI d1), (4, aI 0), (5, aI d2)], [(1, oR s38 d0), (2, oP 1 (S_laws_markCodedPacketS.hd us 0))]⟩ : St)) (show (x0 : List T38) = (mkAt (Sh.mk s38) (Sh.ct s38) x1 x0 (0)) from by first | rfl | (first | exact mkAt_zero.symm | simp [ctL])) (show (x1 : Int) = (x1 + ((ctL (Sh.ct s38) (List.take (0) x0) : Nat) : Int)) from by first | rfl | (first | exact mkAt_zero.symm | simp [ctL])) (show (0 : Int) = (((0) : Nat) : Int) from by first | rfl | (first | exact mkAt_zero.symm | simp [ctL]))) (by omega) ?_
  intro i a w hok0 h
  refine wp_seq ?_
  refine wp_seq ?_
  refine at_regq (T := S_laws_markCodedPacketS_tab) [] { ts := [0, 1, 4, 5, 9], os := [1, 2] } [] gamOK hT h (by kernel_rfl) trivial ?_
  intro a w h
  refine then_normal ?_
  refine at_test (decide (((i : Nat) : Int) < ((List.length (mkAt (Sh.mk s38) (Sh.ct s38) x1 x0 i) : Nat) : Int))) h (by kernel_rfl) (fun h1 => ?_) (fun h1 => ?_)
  · replace h1 : ((i : Nat) : Int) < ((List.length (mkAt (Sh.mk s38) (Sh.ct s38) x1 x0 i) : Nat) : Int) := of_decide_eq_true h1
    have hml : List.length (mkAt (Sh.mk s38) (Sh.ct s38) x1 x0 i) = List.length x0 := mkAt_len
    rw [hml] at h1
    have hat := ctL_at_le (c := Sh.ct s38) (xs := x0) (z := (0, ([], []))) (i := i) (by omega)
    have hsu := ctL_take_succ (c := Sh.ct s38) (xs := x0) (z := (0, ([], []))) (i := i) (by omega)
    have hci : Sh.ct s38 (x0.getD i (0, ([], []))) = (1 + ((Sh.ct s34 (x0.getD i (0, ([], []))).2.1) + (Sh.ct s34 (x0.getD i (0, ([], []))).2.2))) := rfl
    have hge : List.getD (mkAt (Sh.mk s38) (Sh.ct s38) x1 x0 i) i (0, ([], [])) = (x0.getD i (0, ([], []))) := mkAt_get (by omega)
    refine wp_skip ?_
    refine then_normal ?_
    refine wp_seq ?_
    refine wp_block ?_
    refine wp_seq ?_
    replace h := at_open (σ' := ⟨[(0, aS 1), (1, aI (x1 + ((ctL (Sh.ct s38) (List.take i x0) : Nat) : Int))), (4, aI 0), (5, aI ((i : Nat) : Int)), (9, aB (decide (((i : Nat) : Int) < ((List.length (mkAt (Sh.mk s38) (Sh.ct s38) x1 x0 i) : Nat) : Int))))], [(1, some (.op s38 (mkAt (Sh.mk s38) (Sh.ct s38) x1 x0 i) i [cI ((mkAt (Sh.mk s38) (Sh.ct s38) x1 x0 i).getD i (0, ([], []))).1, .sl 3, .sl 4])), (2, oP 1 (S_laws_markCodedPacketS.hd us 0)), (3, oR (.int 3) ((mkAt (Sh.mk s38) (Sh.ct s38) x1 x0 i).getD i (0, ([], []))).2.1), (4, oR (.int 3) ((mkAt (Sh.mk s38) (Sh.ct s38) x1 x0 i).getD i (0, ([], []))).2.2)]⟩) (ps := [i < List.length (mkAt (Sh.mk s38) (Sh.ct s38) x1 x0 i)]) 1 i [3, 4] { ts := [0, 1, 4, 5, 9], os := [1, 2, 3, 4] } h (by kernel_rfl) ⟨(by first | omega | ((try simp only [hge, mkK]); omega) | (simp only [List.length_append, List.length_cons, List.length_nil, List.length_set, List.length_take, List.length_drop, List.length_replicate, List.length_map, Nat.min_def, mkAt_len]; omega) | (simp; done) | (simp; omega)), trivial⟩
    refine at_reg (T := S_laws_markCodedPacketS_tab) [] { ts := [0, 1, 4, 5], os := [1, 2, 3, 4] } ⟨[(0, aS 1), (1, aI (x1 + ((ctL (Sh.ct s38) (List.take i x0) : Nat) : Int))), (4, aI 0), (5, aI ((i : Nat) : Int))], [(1, some (.op s38 (mkAt (Sh.mk s38) (Sh.ct s38) x1 x0 i) i [cI (x1 + ((ctL (Sh.ct s38) (List.take i x0) : Nat) : Int)), .sl 3, .sl 4])), (2, oP 1 (S_laws_markCodedPacketS.hd us 0)), (3, oR (.int 3) ((mkAt (Sh.mk s38) (Sh.ct s38) x1 x0 i).getD i (0, ([], []))).2.1), (4, oR (.int 3) ((mkAt (Sh.mk s38) (Sh.ct s38) x1 x0 i).getD i (0, ([], []))).2.2)]⟩ [(0 : Int) ≤ ((i : Nat) : Int) ∧ ((i : Nat) : Int) < ((List.length (mkAt (Sh.mk s38) (Sh.ct s38) x1 x0 i) : Nat) : Int), i = i] gamOK hT h (by kernel_rfl) ⟨(by refine ⟨?_, ?_⟩ <;> (first | omega | ((try simp only [hge, mkK]); omega) | (simp only [List.length_append, List.length_cons, List.length_nil, List.length_set, List.length_take, List.length_drop, List.length_replicate, List.length_map, Nat.min_def, mkAt_len]; omega) | (simp; done) | (simp; omega))), rfl, trivial⟩ ?_
    intro a w h
    refine then_normal ?_
    refine wp_seq ?_
    refine at_regq (T := S_laws_markCodedPacketS_tab) [{}, { nw := true }] { ts := [0, 1, 4, 5], os := [1, 2, 3, 4] } [I64 ((x1 + ((ctL (Sh.ct s38) (List.take i x0) : Nat) : Int)) + 1)] gamOK hT h (by kernel_rfl) ⟨⟨by first | omega | ((try simp only [hge, mkK]); omega) | (simp only [List.length_append, List.length_cons, List.length_nil, List.length_set, List.length_take, List.length_drop, List.length_replicate, List.length_map, Nat.min_def, mkAt_len]; omega) | (simp; done) | (simp; omega), by first | omega | ((try simp only [hge, mkK]); omega) | (simp only [List.length_append, List.length_cons, List.length_nil, List.length_set, List.length_take, List.length_drop, List.length_replicate, List.length_map, Nat.min_def, mkAt_len]; omega) | (simp; done) | (simp; omega)⟩, trivial⟩ ?_
    intro a w h
    refine then_normal ?_
    refine wp_seq ?_
    refine at_regq (T := S_laws_markCodedPacketS_tab) [] { ts := [0, 1, 4, 5], os := [1, 2, 3, 4] } [(0 : Int) ≤ ((i : Nat) : Int) ∧ ((i : Nat) : Int) < ((List.length (mkAt (Sh.mk s38) (Sh.ct s38) x1 x0 i) : Nat) : Int), i = i, (pMk s34) ((mkAt (Sh.mk s38) (Sh.ct s38) x1 x0 i).getD i (0, ([], []))).2.1 ((x1 + ((ctL (Sh.ct s38) (List.take i x0) : Nat) : Int)) + 1)] gamOK hT h (by kernel_rfl) ⟨(by refine ⟨?_, ?_⟩ <;> (first | omega | ((try simp only [hge, mkK]); omega) | (simp only [List.length_append, List.length_cons, List.length_nil, List.length_set, List.length_take, List.length_drop, List.length_replicate, List.length_map, Nat.min_def, mkAt_len]; omega) | (simp; done) | (simp; omega))), rfl, (by (show (0 : Int) ≤ _ ∧ _ + ((Sh.ct _ _ : Nat) : Int) ≤ (4611686018427387904 : Int); (try simp only [hge, mkK]); constructor <;> omega)), trivial⟩ ?_
    intro a w h
    refine then_normal ?_
    refine at_regq (T := S_laws_markCodedPacketS_tab) [] { ts := [0, 1, 4, 5], os := [1, 2, 3, 4] } [(0 : Int) ≤ ((i : Nat) : Int) ∧ ((i : Nat) : Int) < ((List.length (mkAt (Sh.mk s38) (Sh.ct s38) x1 x0 i) : Nat) : Int), i = i, (pMk s34) ((mkAt (Sh.mk s38) (Sh.ct s38) x1 x0 i).getD i (0, ([], []))).2.2 ((mkK s34) ((mkAt (Sh.mk s38) (Sh.ct s38) x1 x0 i).getD i (0, ([], []))).2.1 ((x1 + ((ctL (Sh.ct s38) (List.take i x0) : Nat) : Int)) + 1))] gamOK hT h (by kernel_rfl) ⟨(by refine ⟨?_, ?_⟩ <;> (first | omega | ((try simp only [hge, mkK]); omega) | (simp only [List.length_append, List.length_cons, List.length_nil, List.length_set, List.length_take, List.length_drop, List.length_replicate, List.length_map, Nat.min_def, mkAt_len]; omega) | (simp; done) | (simp; omega))), rfl, (by (show (0 : Int) ≤ _ ∧ _ + ((Sh.ct _ _ : Nat) : Int) ≤ (4611686018427387904 : Int); (try simp only [hge, mkK]); constructor <;> omega)), trivial⟩ ?_
    intro a w h
    refine in_normal ?_
    refine then_normal ?_
    refine at_reg (T := S_laws_markCodedPacketS_tab) [{}, { nw := true }] { ts := [0, 1, 4, 5], os := [1, 2, 3, 4] } ⟨[(0, aS 1), (1, aI ((mkK s34) ((mkAt (Sh.mk s38) (Sh.ct s38) x1 x0 i).getD i (0, ([], []))).2.2 ((mkK s34) ((mkAt (Sh.mk s38) (Sh.ct s38) x1 x0 i).getD i (0, ([], []))).2.1 ((x1 + ((ctL (Sh.ct s38) (List.take i x0) : Nat) : Int)) + 1)))), (4, aI 0), (5, aI (((i : Nat) : Int) + 1))], [(1, some (.op s38 (mkAt (Sh.mk s38) (Sh.ct s38) x1 x0 i) i [cI (x1 + ((ctL (Sh.ct s38) (List.take i x0) : Nat) : Int)), .sl 3, .sl 4])), (2, oP 1 (S_laws_markCodedPacketS.hd us 0)), (3, oR (.int 3) ((Sh.mk s34) ((mkAt (Sh.mk s38) (Sh.ct s38) x1 x0 i).getD i (0, ([], []))).2.1 ((x1 + ((ctL (Sh.ct s38) (List.take i x0) : Nat) : Int)) + 1))), (4, oR (.int 3) ((Sh.mk s34) ((mkAt (Sh.mk s38) (Sh.ct s38) x1 x0 i).getD i (0, ([], []))).2.2 ((mkK s34) ((mkAt (Sh.mk s38) (Sh.ct s38) x1 x0 i).getD i (0, ([], []))).2.1 ((x1 + ((ctL (Sh.ct s38) (List.take i x0) : Nat) : Int)) + 1))))]⟩ [I64 (((i : Nat) : Int) + 1)] gamOK hT h (by kernel_rfl) ⟨⟨by first | omega | ((try simp only [hge, mkK]); omega) | (simp only [List.length_append, List.length_cons, List.length_nil, List.length_set, List.length_take, List.length_drop, List.length_replicate, List.length_map, Nat.min_def, mkAt_len]; omega) | (simp; done) | (simp; omega), by first | omega | ((try simp only [hge, mkK]); omega) | (simp only [List.length_append, List.length_cons, List.length_nil, List.length_set, List.length_take, List.length_drop, List.length_replicate, List.length_map, Nat.min_def, mkAt_len]; omega) | (simp; done) | (simp; omega)⟩, trivial⟩ ?_
    intro a w h
    replace h := at_shut (σ' := ⟨[(0, aS 1), (1, aI ((mkK s34) ((mkAt (Sh.mk s38) (Sh.ct s38) x1 x0 i).getD i (0, ([], []))).2.2 ((mkK s34) ((mkAt (Sh.mk s38) (Sh.ct s38) x1 x0 i).getD i (0, ([], []))).2.1 ((x1 + ((ctL (Sh.ct s38) (List.take i x0) : Nat) : Int)) + 1)))), (4, aI 0), (5, aI (((i : Nat) : Int) + 1))], [(1, oR s38 (List.set (mkAt (Sh.mk s38) (Sh.ct s38) x1 x0 i) i ((x1 + ((ctL (Sh.ct s38) (List.take i x0) : Nat) : Int)), (((Sh.mk s34) ((mkAt (Sh.mk s38) (Sh.ct s38) x1 x0 i).getD i (0, ([], []))).2.1 ((x1 + ((ctL (Sh.ct s38) (List.take i x0) : Nat) : Int)) + 1)), ((Sh.mk s34) ((mkAt (Sh.mk s38) (Sh.ct s38) x1 x0 i).getD i (0, ([], []))).2.2 ((mkK s34) ((mkAt (Sh.mk s38) (Sh.ct s38) x1 x0 i).getD i (0, ([], []))).2.1 ((x1 + ((ctL (Sh.ct s38) (List.take i x0) : Nat) : Int)) + 1))))))), (2, oP 1 (S_laws_markCodedPacketS.hd us 0))]⟩) (ps := []) 1 { ts := [0, 1, 4, 5], os := [1, 2] } h (by kernel_rfl) trivial
    replace h := at_out (σ' := ⟨[(0, aS 1), (1, aI ((mkK s34) ((mkAt (Sh.mk s38) (Sh.ct s38) x1 x0 i).getD i (0, ([], []))).2.2 ((mkK s34) ((mkAt (Sh.mk s38) (Sh.ct s38) x1 x0 i).getD i (0, ([], []))).2.1 ((x1 + ((ctL (Sh.ct s38) (List.take i x0) : Nat) : Int)) + 1)))), (4, aI 0), (5, aI (((i : Nat) : Int) + 1))], [(1, oR s38 (List.set (mkAt (Sh.mk s38) (Sh.ct s38) x1 x0 i) i ((x1 + ((ctL (Sh.ct s38) (List.take i x0) : Nat) : Int)), (((Sh.mk s34) ((mkAt (Sh.mk s38) (Sh.ct s38) x1 x0 i).getD i (0, ([], []))).2.1 ((x1 + ((ctL (Sh.ct s38) (List.take i x0) : Nat) : Int)) + 1)), ((Sh.mk s34) ((mkAt (Sh.mk s38) (Sh.ct s38) x1 x0 i).getD i (0, ([], []))).2.2 ((mkK s34) ((mkAt (Sh.mk s38) (Sh.ct s38) x1 x0 i).getD i (0, ([], []))).2.1 ((x1 + ((ctL (Sh.ct s38) (List.take i x0) : Nat) : Int)) + 1))))))), (2, oP 1 (S_laws_markCodedPacketS.hd us 0))]⟩) { ts := [0, 1, 4, 5], os := [1, 2] } h (by kernel_rfl)
    skip
    exact ⟨i + 1, at_eq h (st_congr3 (fun (d0 : List T38) (d1 : Int) (d2 : Int) => (⟨[(0, aS 1), (1, aI d1), (4, aI 0), (5, aI d2)], [(1, oR s38 d0), (2, oP 1 (S_laws_markCodedPacketS.hd us 0))]⟩ : St)) (show ((List.set (mkAt (Sh.mk s38) (Sh.ct s38) x1 x0 i) i ((x1 + ((ctL (Sh.ct s38) (List.take i x0) : Nat) : Int)), (((Sh.mk s34) ((mkAt (Sh.mk s38) (Sh.ct s38) x1 x0 i).getD i (0, ([], []))).2.1 ((x1 + ((ctL (Sh.ct s38) (List.take i x0) : Nat) : Int)) + 1)), ((Sh.mk s34) ((mkAt (Sh.mk s38) (Sh.ct s38) x1 x0 i).getD i (0, ([], []))).2.2 ((mkK s34) ((mkAt (Sh.mk s38) (Sh.ct s38) x1 x0 i).getD i (0, ([], []))).2.1 ((x1 + ((ctL (Sh.ct s38) (List.take i x0) : Nat) : Int)) + 1)))))) : List T38) = (mkAt (Sh.mk s38) (Sh.ct s38) x1 x0 (i + 1)) from by first | rfl | (refine mkAt_set' (z := (0, ([], []))) (by omega) ?_; first | (simp only [hge, mkK]; done) | ((try simp only [hge, mkK]); show _ = Sh.mk s38 (x0.getD i (0, ([], []))) _; exact (Prod.ext (by show (_ : Int) = _; first | rfl | omega) (Prod.ext (congrArg (fun k => Sh.mk s34 (x0.getD i (0, ([], []))).2.1 k) (by first | rfl | omega)) (congrArg (fun k => Sh.mk s34 (x0.getD i (0, ([], []))).2.2 k) (by first | rfl | omega))))))) (show (((mkK s34) ((mkAt (Sh.mk s38) (Sh.ct s38) x1 x0 i).getD i (0, ([], []))).2.2 ((mkK s34) ((mkAt (Sh.mk s38) (Sh.ct s38) x1 x0 i).getD i (0, ([], []))).2.1 ((x1 + ((ctL (Sh.ct s38) (List.take i x0) : Nat) : Int)) + 1))) : Int) = (x1 + ((ctL (Sh.ct s38) (List.take (i + 1) x0) : Nat) : Int)) from by first | rfl | (((try simp only [hge, mkK]); omega))) (show (((i : Nat) : Int) + 1 : Int) = (((i + 1) : Nat) : Int) from by first | rfl | (omega))), (by first | omega | (refine ⟨?_, ?_⟩ <;> omega)), (by omega)⟩
  · replace h1 : ¬ (((i : Nat) : Int) < ((List.length (mkAt (Sh.mk s38) (Sh.ct s38) x1 x0 i) : Nat) : Int)) := of_decide_eq_false h1
    have hml : List.length (mkAt (Sh.mk s38) (Sh.ct s38) x1 x0 i) = List.length x0 := mkAt_len
    rw [hml] at h1
    refine wp_exit ?_
    refine then_exit ?_
    refine then_exit ?_
    refine in_hit ?_
    refine then_normal ?_
    refine wp_seq ?_
    refine at_reg (T := S_laws_markCodedPacketS_tab) [] { ts := [4], os := [1, 2] } ⟨[(4, aI (x1 + ((ctL (Sh.ct s38) (List.take i x0) : Nat) : Int)))], [(1, oR s38 (mkAt (Sh.mk s38) (Sh.ct s38) x1 x0 i)), (2, oP 1 (S_laws_markCodedPacketS.hd us 0))]⟩ [] gamOK hT h (by kernel_rfl) trivial ?_
    intro a w h
    refine then_normal ?_
    refine wp_ret ?_
    exact at_returnI (S := S_laws_markCodedPacketS) (x := (x0, x1, ())) [1] [2] ((mkAt (Sh.mk s38) (Sh.ct s38) x1 x0 i), (x1, ())) (some ((x1 + ((ctL (Sh.ct s38) (List.take i x0) : Nat) : Int)), ())) [S_laws_markCodedPacketS.hd us 0 = S_laws_markCodedPacketS.hd us 0] hio h (by kernel_rfl) ⟨rfl, trivial⟩ (by first | rfl | (show ((mkAt (Sh.mk s38) (Sh.ct s38) x1 x0 i), (x1, ())) = ((Sh.mk s146) x0 x1, (x1, ())); rw [show ((mkAt (Sh.mk s38) (Sh.ct s38) x1 x0 i) : (List T38)) = (Sh.mk s146) x0 x1 from by exact mkAt_all (by omega)])) (fun z e => (Option.some.inj e) ▸ (congrArg (fun z => (z, ())) (show ((x1 + ((ctL (Sh.ct s38) (List.take i x0) : Nat) : Int))) = (mkK s146) x0 x1 from by (unfold mkK; rw [take_all (by omega)]; rfl))))

def S_laws_markRecoderS : Sum := { fid := 128, dom := [s90, (.int 3)], cod := [(.int 3)], dp := true, fz := false, pre := fun x => (pMk s90) x.1 x.2.1, g := fun x => (((mkK s90) x.1 x.2.1), ()), kinds := [.io, .rd], upd := fun x => ((Sh.mk s90) x.1 x.2.1, (x.2.1, ())) }
def S_laws_markRecoderS_tab : List (Nat × Sum) := [(170, S_laws_markCodedPacketS)]
theorem S_laws_markRecoderS_ok : FnOK Try.prog 128 S_laws_markRecoderS := by
  refine at_enterI 48 [1] [2] (fun us x => ⟨[(0, aS 1), (1, aI x.2.1)], [(1, oR s148 x.1), (2, oP 1 (S_laws_markRecoderS.hd us 0))]⟩) Try.func128 rfl (by kernel_rfl) (fun us x => rfl) ?_
  rintro w0 Z0 us ⟨x0, x1, u⟩ L a w
  revert x0 x1
  intro (x0 : (List T148)) (x1 : Int) hio hpre hlens h
  replace h : At w0 Z0 L 48 ⟨[(0, aS 1), (1, aI x1)], [(1, oR s148 x0), (2, oP 1 (S_laws_markRecoderS.hd us 0))]⟩ a w := h
  replace hpre : (pMk s90) x0 x1 := hpre
  have hl1 : List.length x0 ≤ 9223372036854775807 := hlens.1.1
  have hT : TabOK Try.prog S_laws_markRecoderS_tab := (.cons S_laws_markCodedPacketS_ok .nil)
  have hp : 0 ≤ x1 ∧ x1 + ((Sh.ct s90 x0 : Nat) : Int) ≤ 4611686018427387904 := hpre
  have hct0 : Sh.ct s90 x0 = ctL (Sh.ct s148) x0 := rfl
  refine wp_seq ?_
  refine at_regq (T := S_laws_markRecoderS_tab) [] { ts := [0, 1, 4], os := [1, 2] } [] gamOK hT h (by kernel_rfl) trivial ?_
  intro a w h
  refine then_normal ?_
  refine wp_seq ?_
  refine wp_seq ?_
  refine at_regq (T := S_laws_markRecoderS_tab) [] { ts := [0, 1, 4, 5], os := [1, 2] } [] gamOK hT h (by kernel_rfl) trivial ?_
  intro a w h
  refine then_normal ?_
  refine wp_block ?_
  replace h := at_out (σ' := ⟨[(0, aS 1), (1, aI x1), (4, aI 0), (5, aI 0)], [(1, oR s148 x0), (2, oP 1 (S_laws_markRecoderS.hd us 0))]⟩) { ts := [0, 1, 4, 5], os := [1, 2] } h (by kernel_rfl)
  refine at_loop (fun i : Nat => (⟨[(0, aS 1), (1, aI (x1 + ((ctL (Sh.ct s148) (List.take i x0) : Nat) : Int))), (4, aI 0), (5, aI ((i : Nat) : Int))], [(1, oR s148 (mkAt (Sh.mk s148) (Sh.ct s148) x1 x0 i)), (2, oP 1 (S_laws_markRecoderS.hd us 0))]⟩ : St)) (fun i => i ≤ List.length x0) (fun i => List.length x0 - i) (0) h (st_congr3 (fun (d0 : List T148) (d1 : Int) (d2 : Int) => (⟨[(0, aS 1), (1, aI d1), (4, aI 0), (5, aI d2)], [(1, oR s148 d0), (2, oP 1 (S_laws_markRecoderS.hd us 0))]⟩ : St)) (show (x0 : List T148) = (mkAt (Sh.mk s148) (Sh.ct s148) x1 x0 (0)) from by first | rfl | (first | exact mkAt_zero.symm | simp [ctL])) (show (x1 : Int) = (x1 + ((ctL (Sh.ct s148) (List.take (0) x0) : Nat) : Int)) from by first | rfl | (first | exact mkAt_zero.symm | simp [ctL])) (show (0 : Int) = (((0) : Nat) : Int) from by first | rfl | (first | exact mkAt_zero.symm | simp [ctL]))) (by omega) ?_
  intro i a w hok0 h
  refine wp_seq ?_
  refine wp_seq ?_
  refine at_regq (T := S_laws_markRecoderS_tab) [] { ts := [0, 1, 4, 5, 9], os := [1, 2] } [] gamOK hT h (by kernel_rfl) trivial ?_
  intro a w h
  refine then_normal ?_
  refine at_test (decide (((i : Nat) : Int) < ((List.length (mkAt (Sh.mk s148) (Sh.ct s148) x1 x0 i) : Nat) : Int))) h (by kernel_rfl) (fun h1 => ?_) (fun h1 => ?_)
  · replace h1 : ((i : Nat) : Int) < ((List.length (mkAt (Sh.mk s148) (Sh.ct s148) x1 x0 i) : Nat) : Int) := of_decide_eq_true h1
    have hml : List.length (mkAt (Sh.mk s148) (Sh.ct s148) x1 x0 i) = List.length x0 := mkAt_len
    rw [hml] at h1
    have hat := ctL_at_le (c := Sh.ct s148) (xs := x0) (z := (0, (0, (0, ([], 0))))) (i := i) (by omega)
    have hsu := ctL_take_succ (c := Sh.ct s148) (xs := x0) (z := (0, (0, (0, ([], 0))))) (i := i) (by omega)
    have hci : Sh.ct s148 (x0.getD i (0, (0, (0, ([], 0))))) = (1 + (1 + (1 + ((Sh.ct s146 (x0.getD i (0, (0, (0, ([], 0))))).2.2.2.1) + 1)))) := rfl
    have hge : List.getD (mkAt (Sh.mk s148) (Sh.ct s148) x1 x0 i) i (0, (0, (0, ([], 0)))) = (x0.getD i (0, (0, (0, ([], 0))))) := mkAt_get (by omega)
    refine wp_skip ?_
    refine then_normal ?_
    refine wp_seq ?_
    refine wp_block ?_
    refine wp_seq ?_
    replace h := at_open (σ' := ⟨[(0, aS 1), (1, aI (x1 + ((ctL (Sh.ct s148) (List.take i x0) : Nat) : Int))), (4, aI 0), (5, aI ((i : Nat) : Int)), (9, aB (decide (((i : Nat) : Int) < ((List.length (mkAt (Sh.mk s148) (Sh.ct s148) x1 x0 i) : Nat) : Int))))], [(1, some (.op s148 (mkAt (Sh.mk s148) (Sh.ct s148) x1 x0 i) i [cI ((mkAt (Sh.mk s148) (Sh.ct s148) x1 x0 i).getD i (0, (0, (0, ([], 0))))).1, cI ((mkAt (Sh.mk s148) (Sh.ct s148) x1 x0 i).getD i (0, (0, (0, ([], 0))))).2.1, cI ((mkAt (Sh.mk s148) (Sh.ct s148) x1 x0 i).getD i (0, (0, (0, ([], 0))))).2.2.1, .sl 3, cI ((mkAt (Sh.mk s148) (Sh.ct s148) x1 x0 i).getD i (0, (0, (0, ([], 0))))).2.2.2.2])), (2, oP 1 (S_laws_markRecoderS.hd us 0)), (3, oR s38 ((mkAt (Sh.mk s148) (Sh.ct s148) x1 x0 i).getD i (0, (0, (0, ([], 0))))).2.2.2.1)]⟩) (ps := [i < List.length (mkAt (Sh.mk s148) (Sh.ct s148) x1 x0 i)]) 1 i [3] { ts := [0, 1, 4, 5, 9], os := [1, 2, 3] } h (by kernel_rfl) ⟨(by first | omega | ((try simp only [hge, mkK]); omega) | (simp only [List.length_append, List.length_cons, List.length_nil, List.length_set, List.length_take, List.length_drop, List.length_replicate, List.length_map, Nat.min_def, mkAt_len]; omega) | (simp; done) | (simp; omega)), trivial⟩
    refine at_reg (T := S_laws_markRecoderS_tab) [] { ts := [0, 1, 4, 5], os := [1, 2, 3] } ⟨[(0, aS 1), (1, aI (x1 + ((ctL (Sh.ct s148) (List.take i x0) : Nat) : Int))), (4, aI 0), (5, aI ((i : Nat) : Int))], [(1, some (.op s148 (mkAt (Sh.mk s148) (Sh.ct s148) x1 x0 i) i [cI (x1 + ((ctL (Sh.ct s148) (List.take i x0) : Nat) : Int)), cI ((mkAt (Sh.mk s148) (Sh.ct s148) x1 x0 i).getD i (0, (0, (0, ([], 0))))).2.1, cI ((mkAt (Sh.mk s148) (Sh.ct s148) x1 x0 i).getD i (0, (0, (0, ([], 0))))).2.2.1, .sl 3, cI ((mkAt (Sh.mk s148) (Sh.ct s148) x1 x0 i).getD i (0, (0, (0, ([], 0))))).2.2.2.2])), (2, oP 1 (S_laws_markRecoderS.hd us 0)), (3, oR s38 ((mkAt (Sh.mk s148) (Sh.ct s148) x1 x0 i).getD i (0, (0, (0, ([], 0))))).2.2.2.1)]⟩ [(0 : Int) ≤ ((i : Nat) : Int) ∧ ((i : Nat) : Int) < ((List.length (mkAt (Sh.mk s148) (Sh.ct s148) x1 x0 i) : Nat) : Int), i = i] gamOK hT h (by kernel_rfl) ⟨(by refine ⟨?_, ?_⟩ <;> (first | omega | ((try simp only [hge, mkK]); omega) | (simp only [List.length_append, List.length_cons, List.length_nil, List.length_set, List.length_take, List.length_drop, List.length_replicate, List.length_map, Nat.min_def, mkAt_len]; omega) | (simp; done) | (simp; omega))), rfl, trivial⟩ ?_
    intro a w h
    refine then_normal ?_
    refine wp_seq ?_
    refine at_regq (T := S_laws_markRecoderS_tab) [{}, { nw := true }] { ts := [0, 1, 4, 5], os := [1, 2, 3] } [I64 ((x1 + ((ctL (Sh.ct s148) (List.take i x0) : Nat) : Int)) + 1)] gamOK hT h (by kernel_rfl) ⟨⟨by first | omega | ((try simp only [hge, mkK]); omega) | (simp only [List.length_append, List.length_cons, List.length_nil, List.length_set, List.length_take, List.length_drop, List.length_replicate, List.length_map, Nat.min_def, mkAt_len]; omega) | (simp; done) | (simp; omega), by first | omega | ((try simp only [hge, mkK]); omega) | (simp only [List.length_append, List.length_cons, List.length_nil, List.length_set, List.length_take, List.length_drop, List.length_replicate, List.length_map, Nat.min_def, mkAt_len]; omega) | (simp; done) | (simp; omega)⟩, trivial⟩ ?_
    intro a w h
    refine then_normal ?_
    refine wp_seq ?_
    refine at_regq (T := S_laws_markRecoderS_tab) [] { ts := [0, 1, 4, 5], os := [1, 2, 3] } [(0 : Int) ≤ ((i : Nat) : Int) ∧ ((i : Nat) : Int) < ((List.length (mkAt (Sh.mk s148) (Sh.ct s148) x1 x0 i) : Nat) : Int), i = i] gamOK hT h (by kernel_rfl) ⟨(by refine ⟨?_, ?_⟩ <;> (first | omega | ((try simp only [hge, mkK]); omega) | (simp only [List.length_append, List.length_cons, List.length_nil, List.length_set, List.length_take, List.length_drop, List.length_replicate, List.length_map, Nat.min_def, mkAt_len]; omega) | (simp; done) | (simp; omega))), rfl, trivial⟩ ?_
    intro a w h
    refine then_normal ?_
    refine wp_seq ?_
    refine at_regq (T := S_laws_markRecoderS_tab) [{}, { nw := true }] { ts := [0, 1, 4, 5], os := [1, 2, 3] } [I64 (((x1 + ((ctL (Sh.ct s148) (List.take i x0) : Nat) : Int)) + 1) + 1)] gamOK hT h (by kernel_rfl) ⟨⟨by first | omega | ((try simp only [hge, mkK]); omega) | (simp only [List.length_append, List.length_cons, List.length_nil, List.length_set, List.length_take, List.length_drop, List.length_replicate, List.length_map, Nat.min_def, mkAt_len]; omega) | (simp; done) | (simp; omega), by first | omega | ((try simp only [hge, mkK]); omega) | (simp only [List.length_append, List.length_cons, List.length_nil, List.length_set, List.length_take, List.length_drop, List.length_replicate, List.length_map, Nat.min_def, mkAt_len]; omega) | (simp; done) | (simp; omega)⟩, trivial⟩ ?_
    intro a w h
    refine then_normal ?_
    refine wp_seq ?_
    refine at_reg (T := S_laws_markRecoderS_tab) [] { ts := [0, 1, 4, 5], os := [1, 2, 3] } ⟨[(0, aS 1), (1, aI (((x1 + ((ctL (Sh.ct s148) (List.take i x0) : Nat) : Int)) + 1) + 1)), (4, aI 0), (5, aI ((i : Nat) : Int))], [(1, some (.op s148 (mkAt (Sh.mk s148) (Sh.ct s148) x1 x0 i) i [cI (x1 + ((ctL (Sh.ct s148) (List.take i x0) : Nat) : Int)), cI ((x1 + ((ctL (Sh.ct s148) (List.take i x0) : Nat) : Int)) + 1), cI (((x1 + ((ctL (Sh.ct s148) (List.take i x0) : Nat) : Int)) + 1) + 1), .sl 3, cI ((mkAt (Sh.mk s148) (Sh.ct s148) x1 x0 i).getD i (0, (0, (0, ([], 0))))).2.2.2.2])), (2, oP 1 (S_laws_markRecoderS.hd us 0)), (3, oR s38 ((mkAt (Sh.mk s148) (Sh.ct s148) x1 x0 i).getD i (0, (0, (0, ([], 0))))).2.2.2.1)]⟩ [(0 : Int) ≤ ((i : Nat) : Int) ∧ ((i : Nat) : Int) < ((List.length (mkAt (Sh.mk s148) (Sh.ct s148) x1 x0 i) : Nat) : Int), i = i] gamOK hT h (by kernel_rfl) ⟨(by refine ⟨?_, ?_⟩ <;> (first | omega | ((try simp only [hge, mkK]); omega) | (simp only [List.length_append, List.length_cons, List.length_nil, List.length_set, List.length_take, List.length_drop, List.length_replicate, List.length_map, Nat.min_def, mkAt_len]; omega) | (simp; done) | (simp; omega))), rfl, trivial⟩ ?_
    intro a w h
    refine then_normal ?_
    refine wp_seq ?_
    refine at_regq (T := S_laws_markRecoderS_tab) [{}, { nw := true }] { ts := [0, 1, 4, 5], os := [1, 2, 3] } [I64 ((((x1 + ((ctL (Sh.ct s148) (List.take i x0) : Nat) : Int)) + 1) + 1) + 1)] gamOK hT h (by kernel_rfl) ⟨⟨by first | omega | ((try simp only [hge, mkK]); omega) | (simp only [List.length_append, List.length_cons, List.length_nil, List.length_set, List.length_take, List.length_drop, List.length_replicate, List.length_map, Nat.min_def, mkAt_len]; omega) | (simp; done) | (simp; omega), by first | omega | ((try simp only [hge, mkK]); omega) | (simp only [List.length_append, List.length_cons, List.length_nil, List.length_set, List.length_take, List.length_drop, List.length_replicate, List.length_map, Nat.min_def, mkAt_len]; omega) | (simp; done) | (simp; omega)⟩, trivial⟩ ?_
    intro a w h
    refine then_normal ?_
    refine wp_seq ?_
    refine at_regq (T := S_laws_markRecoderS_tab) [] { ts := [0, 1, 4, 5], os := [1, 2, 3] } [(0 : Int) ≤ ((i : Nat) : Int) ∧ ((i : Nat) : Int) < ((List.length (mkAt (Sh.mk s148) (Sh.ct s148) x1 x0 i) : Nat) : Int), i = i, (pMk s146) ((mkAt (Sh.mk s148) (Sh.ct s148) x1 x0 i).getD i (0, (0, (0, ([], 0))))).2.2.2.1 ((((x1 + ((ctL (Sh.ct s148) (List.take i x0) : Nat) : Int)) + 1) + 1) + 1)] gamOK hT h (by kernel_rfl) ⟨(by refine ⟨?_, ?_⟩ <;> (first | omega | ((try simp only [hge, mkK]); omega) | (simp only [List.length_append, List.length_cons, List.length_nil, List.length_set, List.length_take, List.length_drop, List.length_replicate, List.length_map, Nat.min_def, mkAt_len]; omega) | (simp; done) | (simp; omega))), rfl, (by (show (0 : Int) ≤ _ ∧ _ + ((Sh.ct _ _ : Nat) : Int) ≤ (4611686018427387904 : Int); (try simp only [hge, mkK]); constructor <;> omega)), trivial⟩ ?_
    intro a w h
    refine then_normal ?_
    refine wp_seq ?_
    refine at_regq (T := S_laws_markRecoderS_tab) [] { ts := [0, 1, 4, 5], os := [1, 2, 3] } [(0 : Int) ≤ ((i : Nat) : Int) ∧ ((i : Nat) : Int) < ((List.length (mkAt (Sh.mk s148) (Sh.ct s148) x1 x0 i) : Nat) : Int), i = i] gamOK hT h (by kernel_rfl) ⟨(by refine ⟨?_, ?_⟩ <;> (first | omega | ((try simp only [hge, mkK]); omega) | (simp only [List.length_append, List.length_cons, List.length_nil, List.length_set, List.length_take, List.length_drop, List.length_replicate, List.length_map, Nat.min_def, mkAt_len]; omega) | (simp; done) | (simp; omega))), rfl, trivial⟩ ?_
    intro a w h
    refine then_normal ?_
    refine at_reg (T := S_laws_markRecoderS_tab) [{}, { nw := true }] { ts := [0, 1, 4, 5], os := [1, 2, 3] } ⟨[(0, aS 1), (1, aI (((mkK s146) ((mkAt (Sh.mk s148) (Sh.ct s148) x1 x0 i).getD i (0, (0, (0, ([], 0))))).2.2.2.1 ((((x1 + ((ctL (Sh.ct s148) (List.take i x0) : Nat) : Int)) + 1) + 1) + 1)) + 1)), (4, aI 0), (5, aI ((i : Nat) : Int))], [(1, some (.op s148 (mkAt (Sh.mk s148) (Sh.ct s148) x1 x0 i) i [cI (x1 + ((ctL (Sh.ct s148) (List.take i x0) : Nat) : Int)), cI ((x1 + ((ctL (Sh.ct s148) (List.take i x0) : Nat) : Int)) + 1), cI (((x1 + ((ctL (Sh.ct s148) (List.take i x0) : Nat) : Int)) + 1) + 1), .sl 3, cI ((mkK s146) ((mkAt (Sh.mk s148) (Sh.ct s148) x1 x0 i).getD i (0, (0, (0, ([], 0))))).2.2.2.1 ((((x1 + ((ctL (Sh.ct s148) (List.take i x0) : Nat) : Int)) + 1) + 1) + 1))])), (2, oP 1 (S_laws_markRecoderS.hd us 0)), (3, oR s38 ((Sh.mk s146) ((mkAt (Sh.mk s148) (Sh.ct s148) x1 x0 i).getD i (0, (0, (0, ([], 0))))).2.2.2.1 ((((x1 + ((ctL (Sh.ct s148) (List.take i x0) : Nat) : Int)) + 1) + 1) + 1)))]⟩ [I64 (((mkK s146) ((mkAt (Sh.mk s148) (Sh.ct s148) x1 x0 i).getD i (0, (0, (0, ([], 0))))).2.2.2.1 ((((x1 + ((ctL (Sh.ct s148) (List.take i x0) : Nat) : Int)) + 1) + 1) + 1)) + 1)] gamOK hT h (by kernel_rfl) ⟨⟨by first | omega | ((try simp only [hge, mkK]); omega) | (simp only [List.length_append, List.length_cons, List.length_nil, List.length_set, List.length_take, List.length_drop, List.length_replicate, List.length_map, Nat.min_def, mkAt_len]; omega) | (simp; done) | (simp; omega), by first | omega | ((try simp only [hge, mkK]); omega) | (simp only [List.length_append, List.length_cons, List.length_nil, List.length_set, List.length_take, List.length_drop, List.length_replicate, List.length_map, Nat.min_def, mkAt_len]; omega) | (simp; done) | (simp; omega)⟩, trivial⟩ ?_
    intro a w h
    refine in_normal ?_
    refine then_normal ?_
    refine at_regq (T := S_laws_markRecoderS_tab) [{}, { nw := true }] { ts := [0, 1, 4, 5], os := [1, 2, 3] } [I64 (((i : Nat) : Int) + 1)] gamOK hT h (by kernel_rfl) ⟨⟨by first | omega | ((try simp only [hge, mkK]); omega) | (simp only [List.length_append, List.length_cons, List.length_nil, List.length_set, List.length_take, List.length_drop, List.length_replicate, List.length_map, Nat.min_def, mkAt_len]; omega) | (simp; done) | (simp; omega), by first | omega | ((try simp only [hge, mkK]); omega) | (simp only [List.length_append, List.length_cons, List.length_nil, List.length_set, List.length_take, List.length_drop, List.length_replicate, List.length_map, Nat.min_def, mkAt_len]; omega) | (simp; done) | (simp; omega)⟩, trivial⟩ ?_
    intro a w h
    replace h := at_shut (σ' := ⟨[(0, aS 1), (1, aI (((mkK s146) ((mkAt (Sh.mk s148) (Sh.ct s148) x1 x0 i).getD i (0, (0, (0, ([], 0))))).2.2.2.1 ((((x1 + ((ctL (Sh.ct s148) (List.take i x0) : Nat) : Int)) + 1) + 1) + 1)) + 1)), (4, aI 0), (5, aI (((i : Nat) : Int) + 1))], [(1, oR s148 (List.set (mkAt (Sh.mk s148) (Sh.ct s148) x1 x0 i) i ((x1 + ((ctL (Sh.ct s148) (List.take i x0) : Nat) : Int)), ((x1 + ((ctL (Sh.ct s148) (List.take i x0) : Nat) : Int)) + 1, (((x1 + ((ctL (Sh.ct s148) (List.take i x0) : Nat) : Int)) + 1) + 1, (((Sh.mk s146) ((mkAt (Sh.mk s148) (Sh.ct s148) x1 x0 i).getD i (0, (0, (0, ([], 0))))).2.2.2.1 ((((x1 + ((ctL (Sh.ct s148) (List.take i x0) : Nat) : Int)) + 1) + 1) + 1)), ((mkK s146) ((mkAt (Sh.mk s148) (Sh.ct s148) x1 x0 i).getD i (0, (0, (0, ([], 0))))).2.2.2.1 ((((x1 + ((ctL (Sh.ct s148) (List.take i x0) : Nat) : Int)) + 1) + 1) + 1)))))))), (2, oP 1 (S_laws_markRecoderS.hd us 0))]⟩) (ps := []) 1 { ts := [0, 1, 4, 5], os := [1, 2] } h (by kernel_rfl) trivial
    replace h := at_out (σ' := ⟨[(0, aS 1), (1, aI (((mkK s146) ((mkAt (Sh.mk s148) (Sh.ct s148) x1 x0 i).getD i (0, (0, (0, ([], 0))))).2.2.2.1 ((((x1 + ((ctL (Sh.ct s148) (List.take i x0) : Nat) : Int)) + 1) + 1) + 1)) + 1)), (4, aI 0), (5, aI (((i : Nat) : Int) + 1))], [(1, oR s148 (List.set (mkAt (Sh.mk s148) (Sh.ct s148) x1 x0 i) i ((x1 + ((ctL (Sh.ct s148) (List.take i x0) : Nat) : Int)), ((x1 + ((ctL (Sh.ct s148) (List.take i x0) : Nat) : Int)) + 1, (((x1 + ((ctL (Sh.ct s148) (List.take i x0) : Nat) : Int)) + 1) + 1, (((Sh.mk s146) ((mkAt (Sh.mk s148) (Sh.ct s148) x1 x0 i).getD i (0, (0, (0, ([], 0))))).2.2.2.1 ((((x1 + ((ctL (Sh.ct s148) (List.take i x0) : Nat) : Int)) + 1) + 1) + 1)), ((mkK s146) ((mkAt (Sh.mk s148) (Sh.ct s148) x1 x0 i).getD i (0, (0, (0, ([], 0))))).2.2.2.1 ((((x1 + ((ctL (Sh.ct s148) (List.take i x0) : Nat) : Int)) + 1) + 1) + 1)))))))), (2, oP 1 (S_laws_markRecoderS.hd us 0))]⟩) { ts := [0, 1, 4, 5], os := [1, 2] } h (by kernel_rfl)
    skip
    exact ⟨i + 1, at_eq h (st_congr3 (fun (d0 : List T148) (d1 : Int) (d2 : Int) => (⟨[(0, aS 1), (1, aI d1), (4, aI 0), (5, aI d2)], [(1, oR s148 d0), (2, oP 1 (S_laws_markRecoderS.hd us 0))]⟩ : St)) (show ((List.set (mkAt (Sh.mk s148) (Sh.ct s148) x1 x0 i) i ((x1 + ((ctL (Sh.ct s148) (List.take i x0) : Nat) : Int)), ((x1 + ((ctL (Sh.ct s148) (List.take i x0) : Nat) : Int)) + 1, (((x1 + ((ctL (Sh.ct s148) (List.take i x0) : Nat) : Int)) + 1) + 1, (((Sh.mk s146) ((mkAt (Sh.mk s148) (Sh.ct s148) x1 x0 i).getD i (0, (0, (0, ([], 0))))).2.2.2.1 ((((x1 + ((ctL (Sh.ct s148) (List.take i x0) : Nat) : Int)) + 1) + 1) + 1)), ((mkK s146) ((mkAt (Sh.mk s148) (Sh.ct s148) x1 x0 i).getD i (0, (0, (0, ([], 0))))).2.2.2.1 ((((x1 + ((ctL (Sh.ct s148) (List.take i x0) : Nat) : Int)) + 1) + 1) + 1))))))) : List T148) = (mkAt (Sh.mk s148) (Sh.ct s148) x1 x0 (i + 1)) from by first | rfl | (refine mkAt_set' (z := (0, (0, (0, ([], 0))))) (by omega) ?_; first | (simp only [hge, mkK]; done) | ((try simp only [hge, mkK]); show _ = Sh.mk s148 (x0.getD i (0, (0, (0, ([], 0))))) _; exact (Prod.ext (by show (_ : Int) = _; first | rfl | omega) (Prod.ext (by show (_ : Int) = _; first | rfl | omega) (Prod.ext (by show (_ : Int) = _; first | rfl | omega) (Prod.ext (congrArg (fun k => Sh.mk s146 (x0.getD i (0, (0, (0, ([], 0))))).2.2.2.1 k) (by first | rfl | omega)) (by show (_ : Int) = _; first | rfl | omega)))))))) (show (((mkK s146) ((mkAt (Sh.mk s148) (Sh.ct s148) x1 x0 i).getD i (0, (0, (0, ([], 0))))).2.2.2.1 ((((x1 + ((ctL (Sh.ct s148) (List.take i x0) : Nat) : Int)) + 1) + 1) + 1)) + 1 : Int) = (x1 + ((ctL (Sh.ct s148) (List.take (i + 1) x0) : Nat) : Int)) from by first | rfl | (((try simp only [hge, mkK]); omega))) (show (((i : Nat) : Int) + 1 : Int) = (((i + 1) : Nat) : Int) from by first | rfl | (omega))), (by first | omega | (refine ⟨?_, ?_⟩ <;> omega)), (by omega)⟩
  · replace h1 : ¬ (((i : Nat) : Int) < ((List.length (mkAt (Sh.mk s148) (Sh.ct s148) x1 x0 i) : Nat) : Int)) := of_decide_eq_false h1
    have hml : List.length (mkAt (Sh.mk s148) (Sh.ct s148) x1 x0 i) = List.length x0 := mkAt_len
    rw [hml] at h1
    refine wp_exit ?_
    refine then_exit ?_
    refine then_exit ?_
    refine in_hit ?_
    refine then_normal ?_
    refine wp_seq ?_
    refine at_reg (T := S_laws_markRecoderS_tab) [] { ts := [4], os := [1, 2] } ⟨[(4, aI (x1 + ((ctL (Sh.ct s148) (List.take i x0) : Nat) : Int)))], [(1, oR s148 (mkAt (Sh.mk s148) (Sh.ct s148) x1 x0 i)), (2, oP 1 (S_laws_markRecoderS.hd us 0))]⟩ [] gamOK hT h (by kernel_rfl) trivial ?_
    intro a w h
    refine then_normal ?_
    refine wp_ret ?_
    exact at_returnI (S := S_laws_markRecoderS) (x := (x0, x1, ())) [1] [2] ((mkAt (Sh.mk s148) (Sh.ct s148) x1 x0 i), (x1, ())) (some ((x1 + ((ctL (Sh.ct s148) (List.take i x0) : Nat) : Int)), ())) [S_laws_markRecoderS.hd us 0 = S_laws_markRecoderS.hd us 0] hio h (by kernel_rfl) ⟨rfl, trivial⟩ (by first | rfl | (show ((mkAt (Sh.mk s148) (Sh.ct s148) x1 x0 i), (x1, ())) = ((Sh.mk s90) x0 x1, (x1, ())); rw [show ((mkAt (Sh.mk s148) (Sh.ct s148) x1 x0 i) : (List T148)) = (Sh.mk s90) x0 x1 from by exact mkAt_all (by omega)])) (fun z e => (Option.some.inj e) ▸ (congrArg (fun z => (z, ())) (show ((x1 + ((ctL (Sh.ct s148) (List.take i x0) : Nat) : Int))) = (mkK s90) x0 x1 from by (unfold mkK; rw [take_all (by omega)]; rfl))))

def S_laws_markRelay : Sum := { fid := 63, dom := [s92, (.int 3)], cod := [(.int 3)], dp := true, fz := false, pre := fun x => (pMkT s92) x.1 x.2.1, g := fun x => (((mkKT s92) x.1 x.2.1), ()), kinds := [.io, .rd], upd := fun x => ((Sh.mkT s92) x.1 x.2.1, (x.2.1, ())) }
def S_laws_markRelay_tab : List (Nat × Sum) := [(128, S_laws_markRecoderS)]
theorem S_laws_markRelay_ok : FnOK Try.prog 63 S_laws_markRelay := by
  refine at_enterI 10 [1] [2] (fun us x => ⟨[(0, aG [cI x.1.1, .sl 1]), (1, aI x.2.1)], [(1, oR s148 x.1.2), (2, oP 1 (S_laws_markRelay.hd us 0))]⟩) Try.func63 rfl (by kernel_rfl) (fun us x => rfl) ?_
  rintro w0 Z0 us ⟨x0, x1, u⟩ L a w
  revert x0 x1
  intro (x0 : T92) (x1 : Int) hio hpre hlens h
  replace h : At w0 Z0 L 10 ⟨[(0, aG [cI x0.1, .sl 1]), (1, aI x1)], [(1, oR s148 x0.2), (2, oP 1 (S_laws_markRelay.hd us 0))]⟩ a w := h
  replace hpre : (pMkT s92) x0 x1 := hpre
  have hl1 : List.length x0.2 ≤ 9223372036854775807 := hlens.1.2.1
  have hT : TabOK Try.prog S_laws_markRelay_tab := (.cons S_laws_markRecoderS_ok .nil)
  have hp : 0 ≤ x1 ∧ x1 + ((Sh.ctT s92 x0 : Nat) : Int) ≤ 4611686018427387904 := hpre
  have hct0 : Sh.ctT s92 x0 = (0 + (Sh.ct s90 x0.2)) := rfl
  refine wp_seq ?_
  refine at_regq (T := S_laws_markRelay_tab) [{ ids := [3] }] { ts := [1, 2, 4], os := [1, 2, 3] } [] gamOK hT h (by kernel_rfl) trivial ?_
  intro a w h
  refine then_normal ?_
  refine wp_seq ?_
  refine at_regq (T := S_laws_markRelay_tab) [] { ts := [1, 4], os := [1, 2] } [(pMk s90) x0.2 x1] gamOK hT h (by kernel_rfl) ⟨(by (first | (show (0 : Int) ≤ _ ∧ _ + ((Sh.ct _ _ : Nat) : Int) ≤ (4611686018427387904 : Int); (try simp only [mkK, mkKT]); constructor <;> omega) | (show (0 : Int) ≤ _ ∧ _ + ((Sh.ctT _ _ : Nat) : Int) ≤ (4611686018427387904 : Int); (try simp only [mkK, mkKT]); constructor <;> omega))), trivial⟩ ?_
  intro a w h
  refine then_normal ?_
  refine wp_seq ?_
  refine at_regq (T := S_laws_markRelay_tab) [] { ts := [4], os := [1, 2] } [] gamOK hT h (by kernel_rfl) trivial ?_
  intro a w h
  refine then_normal ?_
  refine wp_ret ?_
  exact at_returnI (S := S_laws_markRelay) (x := (x0, x1, ())) [1] [2] ((x0.1, ((Sh.mk s90) x0.2 x1)), (x1, ())) (some (((mkK s90) x0.2 x1), ())) [S_laws_markRelay.hd us 0 = S_laws_markRelay.hd us 0] hio h (by kernel_rfl) ⟨rfl, trivial⟩ (by first | rfl | (show ((x0.1, ((Sh.mk s90) x0.2 x1)), (x1, ())) = ((Sh.mkT s92) x0 x1, (x1, ())); rw [show ((x0.1, ((Sh.mk s90) x0.2 x1)) : T92) = (Sh.mkT s92) x0 x1 from by show _ = Sh.mkT s92 x0 x1; exact (Prod.ext rfl (congrArg (fun k => Sh.mk s90 x0.2 k) (show (_ : Int) = x1 + ((0 : Nat) : Int) from by first | rfl | ((try simp only [mkK, mkKT]); omega))))])) (fun z e => (Option.some.inj e) ▸ (congrArg (fun z => (z, ())) (show (((mkK s90) x0.2 x1)) = (mkKT s92) x0 x1 from by ((try simp only [mkK, mkKT]); omega))))

def S_laws_szIntS : Sum := { fid := 88, dom := [s34, (.int 3)], cod := [(.int 3)], dp := true, fz := false, pre := fun x => (pSz s34) x.1 x.2.1, g := fun x => (((szD s34) x.1 x.2.1), ()) }
def S_laws_szIntS_tab : List (Nat × Sum) := []
theorem S_laws_szIntS_ok : FnOK Try.prog 88 S_laws_szIntS := by
  refine at_enter 12 (fun x => ⟨[(0, aF (.int 3) x.1), (1, aI x.2.1)], []⟩) Try.func88 rfl (by kernel_rfl) (fun x => rfl) ?_
  rintro w0 Z0 ⟨x0, x1, u⟩ a w
  revert x0 x1
  intro (x0 : (List Int)) (x1 : Int) hpre hlens h
  replace h : At w0 Z0 [] 12 ⟨[(0, aF (.int 3) x0), (1, aI x1)], []⟩ a w := h
  replace hpre : (pSz s34) x0 x1 := hpre
  have hl1 : List.length x0 ≤ 9223372036854775807 := hlens.1.1
  have hT : TabOK Try.prog S_laws_szIntS_tab := .nil
  have hp : 0 ≤ x1 ∧ x1 ≤ 9223372036854775807 := hpre
  refine wp_seq ?_
  refine at_regq (T := S_laws_szIntS_tab) [] { ts := [0, 1, 4], os := [] } [] gamOK hT h (by kernel_rfl) trivial ?_
  intro a w h
  refine then_normal ?_
  refine wp_seq ?_
  refine at_regq (T := S_laws_szIntS_tab) [{}, {}, {}, { nw := true }] { ts := [1, 4], os := [] } [I64 (x1 - ((List.length x0 : Nat) : Int))] gamOK hT h (by kernel_rfl) ⟨⟨by first | omega | (simp only [List.length_append, List.length_cons, List.length_nil, List.length_set, List.length_take, List.length_drop, List.length_replicate, List.length_map, Nat.min_def]; omega) | (simp; done) | (simp; omega) | done, by first | omega | (simp only [List.length_append, List.length_cons, List.length_nil, List.length_set, List.length_take, List.length_drop, List.length_replicate, List.length_map, Nat.min_def]; omega) | (simp; done) | (simp; omega) | done⟩, trivial⟩ ?_
  intro a w h
  refine then_normal ?_
  refine wp_seq ?_
  refine wp_seq ?_
  refine at_regq (T := S_laws_szIntS_tab) [] { ts := [1, 4, 10], os := [] } [] gamOK hT h (by kernel_rfl) trivial ?_
  intro a w h
  refine then_normal ?_
  refine at_test (decide (x1 - ((List.length x0 : Nat) : Int) < 0)) h (by kernel_rfl) (fun h1 => ?_) (fun h1 => ?_)
  · replace h1 : x1 - ((List.length x0 : Nat) : Int) < 0 := of_decide_eq_true h1
    refine wp_seq ?_
    refine at_reg (T := S_laws_szIntS_tab) [] { ts := [1, 4], os := [] } ⟨[(1, aI (x1 - ((List.length x0 : Nat) : Int))), (4, aI (-1))], []⟩ [] gamOK hT h (by kernel_rfl) trivial ?_
    intro a w h
    refine then_normal ?_
    refine wp_ret ?_
    refine then_ret ?_
    exact at_return (S := S_laws_szIntS) (x := (x0, x1, ())) ((-1), ()) [] h (by kernel_rfl) trivial (congrArg (fun z => (z, ())) (show ((-1)) = (szD s34) x0 x1 from by exact (szD_no (by rw [sz_flat (by rfl)]; omega)).symm))
  · replace h1 : ¬ (x1 - ((List.length x0 : Nat) : Int) < 0) := of_decide_eq_false h1
    refine wp_skip ?_
    refine then_normal ?_
    refine wp_seq ?_
    refine at_reg (T := S_laws_szIntS_tab) [] { ts := [4], os := [] } ⟨[(4, aI (x1 - ((List.length x0 : Nat) : Int)))], []⟩ [] gamOK hT h (by kernel_rfl) trivial ?_
    intro a w h
    refine then_normal ?_
    refine wp_ret ?_
    exact at_return (S := S_laws_szIntS) (x := (x0, x1, ())) (x1 - ((List.length x0 : Nat) : Int), ()) [] h (by kernel_rfl) trivial (congrArg (fun z => (z, ())) (show (x1 - ((List.length x0 : Nat) : Int)) = (szD s34) x0 x1 from by exact ((szD_ok (by rw [sz_flat (by rfl)]; omega)).trans (by rw [sz_flat (by rfl)])).symm))

def S_laws_szCodedPacket : Sum := { fid := 22, dom := [s36, (.int 3)], cod := [(.int 3)], dp := true, fz := false, pre := fun x => (pSz s36) x.1 x.2.1, g := fun x => (((szD s36) x.1 x.2.1), ()) }
def S_laws_szCodedPacket_tab : List (Nat × Sum) := [(88, S_laws_szIntS)]
theorem S_laws_szCodedPacket_ok : FnOK Try.prog 22 S_laws_szCodedPacket := by
  refine at_enter 18 (fun x => ⟨[(0, aG [cI x.1.1, .ro (.int 3) x.1.2.1, .ro (.int 3) x.1.2.2]), (1, aI x.2.1)], []⟩) Try.func22 rfl (by kernel_rfl) (fun x => rfl) ?_
  rintro w0 Z0 ⟨x0, x1, u⟩ a w
  revert x0 x1
  intro (x0 : T36) (x1 : Int) hpre hlens h
  replace h : At w0 Z0 [] 18 ⟨[(0, aG [cI x0.1, .ro (.int 3) x0.2.1, .ro (.int 3) x0.2.2]), (1, aI x1)], []⟩ a w := h
  replace hpre : (pSz s36) x0 x1 := hpre
  have hl1 : List.length x0.2.1 ≤ 9223372036854775807 := hlens.1.2.1.1
  have hl2 : List.length x0.2.2 ≤ 9223372036854775807 := hlens.1.2.2.1
  have hT : TabOK Try.prog S_laws_szCodedPacket_tab := (.cons S_laws_szIntS_ok .nil)
  have hp : 0 ≤ x1 ∧ x1 ≤ 9223372036854775807 := hpre
  have hsz : Sh.sz s36 x0 = (0 + ((Sh.sz s34 x0.2.1) + (Sh.sz s34 x0.2.2))) := rfl
  refine wp_seq ?_
  refine at_regq (T := S_laws_szCodedPacket_tab) [{ ids := [1] }] { ts := [1, 2, 4], os := [1] } [] gamOK hT h (by kernel_rfl) trivial ?_
  intro a w h
  refine then_normal ?_
  refine wp_seq ?_
  refine at_regq (T := S_laws_szCodedPacket_tab) [] { ts := [1, 2, 4], os := [1] } [(pSz s34) x0.2.1 x1] gamOK hT h (by kernel_rfl) ⟨(by (show (0 : Int) ≤ _ ∧ _ ≤ (9223372036854775807 : Int); constructor <;> omega)), trivial⟩ ?_
  intro a w h
  refine then_normal ?_
  refine wp_seq ?_
  refine wp_seq ?_
  refine at_regq (T := S_laws_szCodedPacket_tab) [] { ts := [1, 2, 4, 10], os := [1] } [] gamOK hT h (by kernel_rfl) trivial ?_
  intro a w h
  refine then_normal ?_
  refine at_test (decide (((szD s34) x0.2.1 x1) < 0)) h (by kernel_rfl) (fun h1 => ?_) (fun h1 => ?_)
  · replace h1 : ((szD s34) x0.2.1 x1) < 0 := of_decide_eq_true h1
    have hvh1 := szD_neg h1 (by omega)
    refine wp_seq ?_
    refine at_reg (T := S_laws_szCodedPacket_tab) [] { ts := [1, 2, 4], os := [1] } ⟨[(1, aI ((szD s34) x0.2.1 x1)), (2, aP 1 0), (4, aI (-1))], [(1, oX 36 [cI x0.1, .ro (.int 3) x0.2.1, .ro (.int 3) x0.2.2])]⟩ [] gamOK hT h (by kernel_rfl) trivial ?_
    intro a w h
    refine then_normal ?_
    refine wp_ret ?_
    refine then_ret ?_
    exact at_return (S := S_laws_szCodedPacket) (x := (x0, x1, ())) ((-1), ()) [] h (by kernel_rfl) trivial (congrArg (fun z => (z, ())) (show ((-1)) = (szD s36) x0 x1 from by (first | exact (szD_no (by omega)).symm | exact ((szD_ok (by omega)).trans (by omega)).symm)))
  · replace h1 : ¬ (((szD s34) x0.2.1 x1) < 0) := of_decide_eq_false h1
    have hvh1 := szD_val h1 (by omega)
    refine wp_skip ?_
    refine then_normal ?_
    refine wp_seq ?_
    refine at_reg (T := S_laws_szCodedPacket_tab) [] { ts := [1, 4], os := [] } ⟨[(1, aI ((szD s34) x0.2.2 ((szD s34) x0.2.1 x1))), (4, aI 0)], []⟩ [(pSz s34) x0.2.2 ((szD s34) x0.2.1 x1)] gamOK hT h (by kernel_rfl) ⟨(by (show (0 : Int) ≤ _ ∧ _ ≤ (9223372036854775807 : Int); constructor <;> omega)), trivial⟩ ?_
    intro a w h
    refine then_normal ?_
    refine wp_seq ?_
    refine wp_seq ?_
    refine at_regq (T := S_laws_szCodedPacket_tab) [] { ts := [1, 4, 16], os := [] } [] gamOK hT h (by kernel_rfl) trivial ?_
    intro a w h
    refine then_normal ?_
    refine at_test (decide (((szD s34) x0.2.2 ((szD s34) x0.2.1 x1)) < 0)) h (by kernel_rfl) (fun h2 => ?_) (fun h2 => ?_)
    · replace h2 : ((szD s34) x0.2.2 ((szD s34) x0.2.1 x1)) < 0 := of_decide_eq_true h2
      have hvh2 := szD_neg h2 (by omega)
      refine wp_seq ?_
      refine at_regq (T := S_laws_szCodedPacket_tab) [] { ts := [1, 4], os := [] } [] gamOK hT h (by kernel_rfl) trivial ?_
      intro a w h
      refine then_normal ?_
      refine wp_ret ?_
      refine then_ret ?_
      exact at_return (S := S_laws_szCodedPacket) (x := (x0, x1, ())) ((-1), ()) [] h (by kernel_rfl) trivial (congrArg (fun z => (z, ())) (show ((-1)) = (szD s36) x0 x1 from by (first | exact (szD_no (by omega)).symm | exact ((szD_ok (by omega)).trans (by omega)).symm)))
    · replace h2 : ¬ (((szD s34) x0.2.2 ((szD s34) x0.2.1 x1)) < 0) := of_decide_eq_false h2
      have hvh2 := szD_val h2 (by omega)
      refine wp_skip ?_
      refine then_normal ?_
      refine wp_seq ?_
      refine at_regq (T := S_laws_szCodedPacket_tab) [] { ts := [4], os := [] } [] gamOK hT h (by kernel_rfl) trivial ?_
      intro a w h
      refine then_normal ?_
      refine wp_ret ?_
      exact at_return (S := S_laws_szCodedPacket) (x := (x0, x1, ())) (((szD s34) x0.2.2 ((szD s34) x0.2.1 x1)), ()) [] h (by kernel_rfl) trivial (congrArg (fun z => (z, ())) (show (((szD s34) x0.2.2 ((szD s34) x0.2.1 x1))) = (szD s36) x0 x1 from by (first | exact (szD_no (by omega)).symm | exact ((szD_ok (by omega)).trans (by omega)).symm)))

def S_laws_szCodedPacketS : Sum := { fid := 189, dom := [s178, (.int 3)], cod := [(.int 3)], dp := true, fz := false, pre := fun x => (pSz s178) x.1 x.2.1, g := fun x => (((szD s178) x.1 x.2.1), ()) }
def S_laws_szCodedPacketS_tab : List (Nat × Sum) := [(22, S_laws_szCodedPacket)]
theorem S_laws_szCodedPacketS_ok : FnOK Try.prog 189 S_laws_szCodedPacketS := by
  refine at_enter 27 (fun x => ⟨[(0, aF s36 x.1), (1, aI x.2.1)], []⟩) Try.func189 rfl (by kernel_rfl) (fun x => rfl) ?_
  rintro w0 Z0 ⟨x0, x1, u⟩ a w
  revert x0 x1
  intro (x0 : (List T36)) (x1 : Int) hpre hlens h
  replace h : At w0 Z0 [] 27 ⟨[(0, aF s36 x0), (1, aI x1)], []⟩ a w := h
  replace hpre : (pSz s178) x0 x1 := hpre
  have hl1 : List.length x0 ≤ 9223372036854775807 := hlens.1.1
  have hT : TabOK Try.prog S_laws_szCodedPacketS_tab := (.cons S_laws_szCodedPacket_ok .nil)
  have hp : 0 ≤ x1 ∧ x1 ≤ 9223372036854775807 := hpre
  have hsz : Sh.sz s178 x0 = List.length x0 + ctL (Sh.sz s36) x0 := rfl
  refine wp_seq ?_
  refine at_regq (T := S_laws_szCodedPacketS_tab) [] { ts := [0, 1, 4], os := [] } [] gamOK hT h (by kernel_rfl) trivial ?_
  intro a w h
  refine then_normal ?_
  refine wp_seq ?_
  refine at_regq (T := S_laws_szCodedPacketS_tab) [{}, {}, {}, { nw := true }] { ts := [0, 1, 4], os := [] } [I64 (x1 - ((List.length x0 : Nat) : Int))] gamOK hT h (by kernel_rfl) ⟨⟨by first | omega | (simp only [List.length_append, List.length_cons, List.length_nil, List.length_set, List.length_take, List.length_drop, List.length_replicate, List.length_map, Nat.min_def]; omega) | (simp; done) | (simp; omega) | done, by first | omega | (simp only [List.length_append, List.length_cons, List.length_nil, List.length_set, List.length_take, List.length_drop, List.length_replicate, List.length_map, Nat.min_def]; omega) | (simp; done) | (simp; omega) | done⟩, trivial⟩ ?_
  intro a w h
  refine then_normal ?_
  refine wp_seq ?_
  refine wp_seq ?_
  refine at_regq (T := S_laws_szCodedPacketS_tab) [] { ts := [0, 1, 4, 11], os := [] } [] gamOK hT h (by kernel_rfl) trivial ?_
  intro a w h
  refine then_normal ?_
  refine at_test (decide (x1 - ((List.length x0 : Nat) : Int) < 0)) h (by kernel_rfl) (fun h1 => ?_) (fun h1 => ?_)
  · replace h1 : x1 - ((List.length x0 : Nat) : Int) < 0 := of_decide_eq_true h1
    refine wp_seq ?_
    refine at_reg (T := S_laws_szCodedPacketS_tab) [] { ts := [0, 1, 4], os := [] } ⟨[(0, aF s36 x0), (1, aI (x1 - ((List.length x0 : Nat) : Int))), (4, aI (-1))], []⟩ [] gamOK hT h (by kernel_rfl) trivial ?_
    intro a w h
    refine then_normal ?_
    refine wp_ret ?_
    refine then_ret ?_
    exact at_return (S := S_laws_szCodedPacketS) (x := (x0, x1, ())) ((-1), ()) [] h (by kernel_rfl) trivial (congrArg (fun z => (z, ())) (show ((-1)) = (szD s178) x0 x1 from by exact (szD_no (by omega)).symm))
  · replace h1 : ¬ (x1 - ((List.length x0 : Nat) : Int) < 0) := of_decide_eq_false h1
    refine wp_skip ?_
    refine then_normal ?_
    refine wp_seq ?_
    refine wp_seq ?_
    refine at_reg (T := S_laws_szCodedPacketS_tab) [] { ts := [0, 1, 4, 5], os := [] } ⟨[(0, aF s36 x0), (1, aI (x1 - ((List.length x0 : Nat) : Int))), (4, aI 0), (5, aI 0)], []⟩ [] gamOK hT h (by kernel_rfl) trivial ?_
    intro a w h
    refine then_normal ?_
    refine wp_block ?_
    replace h := at_out (σ' := ⟨[(0, aF s36 x0), (1, aI (x1 - ((List.length x0 : Nat) : Int))), (4, aI 0), (5, aI 0)], []⟩) { ts := [0, 1, 4, 5], os := [] } h (by kernel_rfl)
    refine at_loop (fun i : Nat => (⟨[(0, aF s36 x0), (1, aI (x1 - ((List.length x0 : Nat) : Int) - ((ctL (Sh.sz s36) (List.take i x0) : Nat) : Int))), (4, aI 0), (5, aI ((i : Nat) : Int))], []⟩ : St)) (fun i => (i ≤ List.length x0 ∧ ((List.length x0 : Nat) : Int) + ((ctL (Sh.sz s36) (List.take i x0) : Nat) : Int) ≤ x1)) (fun i => List.length x0 - i) (0) h (st_congr2 (fun (d0 : Int) (d1 : Int) => (⟨[(0, aF s36 x0), (1, aI d0), (4, aI 0), (5, aI d1)], []⟩ : St)) (show (x1 - ((List.length x0 : Nat) : Int) : Int) = (x1 - ((List.length x0 : Nat) : Int) - ((ctL (Sh.sz s36) (List.take (0) x0) : Nat) : Int)) from by first | rfl | (simp [ctL])) (show (0 : Int) = (((0) : Nat) : Int) from by first | rfl | (simp [ctL]))) (by simp [ctL]; omega) ?_
    intro i a w hok0 h
    refine wp_seq ?_
    refine wp_seq ?_
    refine at_regq (T := S_laws_szCodedPacketS_tab) [] { ts := [0, 1, 4, 5, 15], os := [] } [] gamOK hT h (by kernel_rfl) trivial ?_
    intro a w h
    refine then_normal ?_
    refine at_test (decide (((i : Nat) : Int) < ((List.length x0 : Nat) : Int))) h (by kernel_rfl) (fun h2 => ?_) (fun h2 => ?_)
    · replace h2 : ((i : Nat) : Int) < ((List.length x0 : Nat) : Int) := of_decide_eq_true h2
      have hat := ctL_at_le (c := Sh.sz s36) (xs := x0) (z := (0, ([], []))) (i := i) (by omega)
      have hsu := ctL_take_succ (c := Sh.sz s36) (xs := x0) (z := (0, ([], []))) (i := i) (by omega)
      refine wp_skip ?_
      refine then_normal ?_
      refine wp_seq ?_
      refine wp_block ?_
      refine wp_seq ?_
      refine at_regq (T := S_laws_szCodedPacketS_tab) [] { ts := [0, 1, 4, 5], os := [] } [(0 : Int) ≤ ((i : Nat) : Int) ∧ ((i : Nat) : Int) < ((List.length x0 : Nat) : Int), (pSz s36) (x0.getD i (0, ([], []))) (x1 - ((List.length x0 : Nat) : Int) - ((ctL (Sh.sz s36) (List.take i x0) : Nat) : Int))] gamOK hT h (by kernel_rfl) ⟨(by refine ⟨?_, ?_⟩ <;> (first | omega | (simp only [List.length_append, List.length_cons, List.length_nil, List.length_set, List.length_take, List.length_drop, List.length_replicate, List.length_map, Nat.min_def]; omega) | (simp; done) | (simp; omega) | done)), (by (show (0 : Int) ≤ _ ∧ _ ≤ (9223372036854775807 : Int); constructor <;> omega)), trivial⟩ ?_
      intro a w h
      refine then_normal ?_
      refine wp_seq ?_
      refine at_regq (T := S_laws_szCodedPacketS_tab) [] { ts := [0, 1, 4, 5, 25], os := [] } [] gamOK hT h (by kernel_rfl) trivial ?_
      intro a w h
      refine then_normal ?_
      refine at_test (decide (((szD s36) (x0.getD i (0, ([], []))) (x1 - ((List.length x0 : Nat) : Int) - ((ctL (Sh.sz s36) (List.take i x0) : Nat) : Int))) < 0)) h (by kernel_rfl) (fun h3 => ?_) (fun h3 => ?_)
      · replace h3 : ((szD s36) (x0.getD i (0, ([], []))) (x1 - ((List.length x0 : Nat) : Int) - ((ctL (Sh.sz s36) (List.take i x0) : Nat) : Int))) < 0 := of_decide_eq_true h3
        have hvh3 := szD_neg h3 (by omega)
        refine wp_seq ?_
        refine at_reg (T := S_laws_szCodedPacketS_tab) [] { ts := [0, 1, 4, 5], os := [] } ⟨[(0, aF s36 x0), (1, aI ((szD s36) (x0.getD i (0, ([], []))) (x1 - ((List.length x0 : Nat) : Int) - ((ctL (Sh.sz s36) (List.take i x0) : Nat) : Int)))), (4, aI (-1)), (5, aI ((i : Nat) : Int))], []⟩ [] gamOK hT h (by kernel_rfl) trivial ?_
        intro a w h
        refine then_normal ?_
        refine wp_ret ?_
        refine in_ret ?_
        refine then_ret ?_
        refine then_ret ?_
        refine in_ret ?_
        refine then_ret ?_
        exact at_return (S := S_laws_szCodedPacketS) (x := (x0, x1, ())) ((-1), ()) [] h (by kernel_rfl) trivial (congrArg (fun z => (z, ())) (show ((-1)) = (szD s178) x0 x1 from by exact (szD_no (by omega)).symm))
      · replace h3 : ¬ (((szD s36) (x0.getD i (0, ([], []))) (x1 - ((List.length x0 : Nat) : Int) - ((ctL (Sh.sz s36) (List.take i x0) : Nat) : Int))) < 0) := of_decide_eq_false h3
        have hvh3 := szD_val h3 (by omega)
        refine wp_skip ?_
        refine in_normal ?_
        refine then_normal ?_
        refine at_reg (T := S_laws_szCodedPacketS_tab) [{}, { nw := true }] { ts := [0, 1, 4, 5], os := [] } ⟨[(0, aF s36 x0), (1, aI ((szD s36) (x0.getD i (0, ([], []))) (x1 - ((List.length x0 : Nat) : Int) - ((ctL (Sh.sz s36) (List.take i x0) : Nat) : Int)))), (4, aI 0), (5, aI (((i : Nat) : Int) + 1))], []⟩ [I64 (((i : Nat) : Int) + 1)] gamOK hT h (by kernel_rfl) ⟨⟨by first | omega | (simp only [List.length_append, List.length_cons, List.length_nil, List.length_set, List.length_take, List.length_drop, List.length_replicate, List.length_map, Nat.min_def]; omega) | (simp; done) | (simp; omega) | done, by first | omega | (simp only [List.length_append, List.length_cons, List.length_nil, List.length_set, List.length_take, List.length_drop, List.length_replicate, List.length_map, Nat.min_def]; omega) | (simp; done) | (simp; omega) | done⟩, trivial⟩ ?_
        intro a w h
        replace h := at_out (σ' := ⟨[(0, aF s36 x0), (1, aI ((szD s36) (x0.getD i (0, ([], []))) (x1 - ((List.length x0 : Nat) : Int) - ((ctL (Sh.sz s36) (List.take i x0) : Nat) : Int)))), (4, aI 0), (5, aI (((i : Nat) : Int) + 1))], []⟩) { ts := [0, 1, 4, 5], os := [] } h (by kernel_rfl)
        exact ⟨i + 1, at_eq h (st_congr2 (fun (d0 : Int) (d1 : Int) => (⟨[(0, aF s36 x0), (1, aI d0), (4, aI 0), (5, aI d1)], []⟩ : St)) (show (((szD s36) (x0.getD i (0, ([], []))) (x1 - ((List.length x0 : Nat) : Int) - ((ctL (Sh.sz s36) (List.take i x0) : Nat) : Int))) : Int) = (x1 - ((List.length x0 : Nat) : Int) - ((ctL (Sh.sz s36) (List.take (i + 1) x0) : Nat) : Int)) from by first | rfl | (omega)) (show (((i : Nat) : Int) + 1 : Int) = (((i + 1) : Nat) : Int) from by first | rfl | (omega))), (by constructor <;> omega), (by omega)⟩
    · replace h2 : ¬ (((i : Nat) : Int) < ((List.length x0 : Nat) : Int)) := of_decide_eq_false h2
      refine wp_exit ?_
      refine then_exit ?_
      refine then_exit ?_
      refine in_hit ?_
      refine then_normal ?_
      refine wp_seq ?_
      refine at_regq (T := S_laws_szCodedPacketS_tab) [] { ts := [4], os := [] } [] gamOK hT h (by kernel_rfl) trivial ?_
      intro a w h
      refine then_normal ?_
      refine wp_ret ?_
      exact at_return (S := S_laws_szCodedPacketS) (x := (x0, x1, ())) ((x1 - ((List.length x0 : Nat) : Int) - ((ctL (Sh.sz s36) (List.take i x0) : Nat) : Int)), ()) [] h (by kernel_rfl) trivial (congrArg (fun z => (z, ())) (show ((x1 - ((List.length x0 : Nat) : Int) - ((ctL (Sh.sz s36) (List.take i x0) : Nat) : Int))) = (szD s178) x0 x1 from by (have hta : ctL (Sh.sz s36) (List.take i x0) = ctL (Sh.sz s36) x0 := congrArg (ctL (Sh.sz s36)) (take_all (by omega)); exact ((szD_ok (by omega)).trans (by omega)).symm)))

def S_laws_szRecoder : Sum := { fid := 167, dom := [s180, (.int 3)], cod := [(.int 3)], dp := true, fz := false, pre := fun x => (pSz s180) x.1 x.2.1, g := fun x => (((szD s180) x.1 x.2.1), ()) }
def S_laws_szRecoder_tab : List (Nat × Sum) := [(189, S_laws_szCodedPacketS)]
theorem S_laws_szRecoder_ok : FnOK Try.prog 167 S_laws_szRecoder := by
  refine at_enter 12 (fun x => ⟨[(0, aG [cI x.1.1, cI x.1.2.1, cI x.1.2.2.1, .ro s36 x.1.2.2.2.1, cI x.1.2.2.2.2]), (1, aI x.2.1)], []⟩) Try.func167 rfl (by kernel_rfl) (fun x => rfl) ?_
  rintro w0 Z0 ⟨x0, x1, u⟩ a w
  revert x0 x1
  intro (x0 : T180) (x1 : Int) hpre hlens h
  replace h : At w0 Z0 [] 12 ⟨[(0, aG [cI x0.1, cI x0.2.1, cI x0.2.2.1, .ro s36 x0.2.2.2.1, cI x0.2.2.2.2]), (1, aI x1)], []⟩ a w := h
  replace hpre : (pSz s180) x0 x1 := hpre
  have hl1 : List.length x0.2.2.2.1 ≤ 9223372036854775807 := hlens.1.2.2.2.1.1
  have hT : TabOK Try.prog S_laws_szRecoder_tab := (.cons S_laws_szCodedPacketS_ok .nil)
  have hp : 0 ≤ x1 ∧ x1 ≤ 9223372036854775807 := hpre
  have hsz : Sh.sz s180 x0 = (0 + (0 + (0 + ((Sh.sz s178 x0.2.2.2.1) + 0)))) := rfl
  refine wp_seq ?_
  refine at_regq (T := S_laws_szRecoder_tab) [{ ids := [1] }] { ts := [1, 2, 4], os := [1] } [] gamOK hT h (by kernel_rfl) trivial ?_
  intro a w h
  refine then_normal ?_
  refine wp_seq ?_
  refine at_regq (T := S_laws_szRecoder_tab) [] { ts := [1, 4], os := [] } [(pSz s178) x0.2.2.2.1 x1] gamOK hT h (by kernel_rfl) ⟨(by (show (0 : Int) ≤ _ ∧ _ ≤ (9223372036854775807 : Int); constructor <;> omega)), trivial⟩ ?_
  intro a w h
  refine then_normal ?_
  refine wp_seq ?_
  refine wp_seq ?_
  refine at_regq (T := S_laws_szRecoder_tab) [] { ts := [1, 4, 10], os := [] } [] gamOK hT h (by kernel_rfl) trivial ?_
  intro a w h
  refine then_normal ?_
  refine at_test (decide (((szD s178) x0.2.2.2.1 x1) < 0)) h (by kernel_rfl) (fun h1 => ?_) (fun h1 => ?_)
  · replace h1 : ((szD s178) x0.2.2.2.1 x1) < 0 := of_decide_eq_true h1
    have hvh1 := szD_neg h1 (by omega)
    refine wp_seq ?_
    refine at_reg (T := S_laws_szRecoder_tab) [] { ts := [1, 4], os := [] } ⟨[(1, aI ((szD s178) x0.2.2.2.1 x1)), (4, aI (-1))], []⟩ [] gamOK hT h (by kernel_rfl) trivial ?_
    intro a w h
    refine then_normal ?_
    refine wp_ret ?_
    refine then_ret ?_
    exact at_return (S := S_laws_szRecoder) (x := (x0, x1, ())) ((-1), ()) [] h (by kernel_rfl) trivial (congrArg (fun z => (z, ())) (show ((-1)) = (szD s180) x0 x1 from by (first | exact (szD_no (by omega)).symm | exact ((szD_ok (by omega)).trans (by omega)).symm)))
  · replace h1 : ¬ (((szD s178) x0.2.2.2.1 x1) < 0) := of_decide_eq_false h1
    have hvh1 := szD_val h1 (by omega)
    refine wp_skip ?_
    refine then_normal ?_
    refine wp_seq ?_
    refine at_reg (T := S_laws_szRecoder_tab) [] { ts := [4], os := [] } ⟨[(4, aI ((szD s178) x0.2.2.2.1 x1))], []⟩ [] gamOK hT h (by kernel_rfl) trivial ?_
    intro a w h
    refine then_normal ?_
    refine wp_ret ?_
    exact at_return (S := S_laws_szRecoder) (x := (x0, x1, ())) (((szD s178) x0.2.2.2.1 x1), ()) [] h (by kernel_rfl) trivial (congrArg (fun z => (z, ())) (show (((szD s178) x0.2.2.2.1 x1)) = (szD s180) x0 x1 from by (first | exact (szD_no (by omega)).symm | exact ((szD_ok (by omega)).trans (by omega)).symm)))

def S_laws_szRecoderS : Sum := { fid := 125, dom := [s85, (.int 3)], cod := [(.int 3)], dp := true, fz := false, pre := fun x => (pSz s85) x.1 x.2.1, g := fun x => (((szD s85) x.1 x.2.1), ()) }
def S_laws_szRecoderS_tab : List (Nat × Sum) := [(167, S_laws_szRecoder)]
theorem S_laws_szRecoderS_ok : FnOK Try.prog 125 S_laws_szRecoderS := by
  refine at_enter 27 (fun x => ⟨[(0, aF s180 x.1), (1, aI x.2.1)], []⟩) Try.func125 rfl (by kernel_rfl) (fun x => rfl) ?_
  rintro w0 Z0 ⟨x0, x1, u⟩ a w
  revert x0 x1
  intro (x0 : (List T180)) (x1 : Int) hpre hlens h
  replace h : At w0 Z0 [] 27 ⟨[(0, aF s180 x0), (1, aI x1)], []⟩ a w := h
  replace hpre : (pSz s85) x0 x1 := hpre
  have hl1 : List.length x0 ≤ 9223372036854775807 := hlens.1.1
  have hT : TabOK Try.prog S_laws_szRecoderS_tab := (.cons S_laws_szRecoder_ok .nil)
  have hp : 0 ≤ x1 ∧ x1 ≤ 9223372036854775807 := hpre
  have hsz : Sh.sz s85 x0 = List.length x0 + ctL (Sh.sz s180) x0 := rfl
  refine wp_seq ?_
  refine at_regq (T := S_laws_szRecoderS_tab) [] { ts := [0, 1, 4], os := [] } [] gamOK hT h (by kernel_rfl) trivial ?_
  intro a w h
  refine then_normal ?_
  refine wp_seq ?_
  refine at_regq (T := S_laws_szRecoderS_tab) [{}, {}, {}, { nw := true }] { ts := [0, 1, 4], os := [] } [I64 (x1 - ((List.length x0 : Nat) : Int))] gamOK hT h (by kernel_rfl) ⟨⟨by first | omega | (simp only [List.length_append, List.length_cons, List.length_nil, List.length_set, List.length_take, List.length_drop, List.length_replicate, List.length_map, Nat.min_def]; omega) | (simp; done) | (simp; omega) | done, by first | omega | (simp only [List.length_append, List.length_cons, List.length_nil, List.length_set, List.length_take, List.length_drop, List.length_replicate, List.length_map, Nat.min_def]; omega) | (simp; done) | (simp; omega) | done⟩, trivial⟩ ?_
  intro a w h
  refine then_normal ?_
  refine wp_seq ?_
  refine wp_seq ?_
  refine at_regq (T := S_laws_szRecoderS_tab) [] { ts := [0, 1, 4, 11], os := [] } [] gamOK hT h (by kernel_rfl) trivial ?_
  intro a w h
  refine then_normal ?_
  refine at_test (decide (x1 - ((List.length x0 : Nat) : Int) < 0)) h (by kernel_rfl) (fun h1 => ?_) (fun h1 => ?_)
  · replace h1 : x1 - ((List.length x0 : Nat) : Int) < 0 := of_decide_eq_true h1
    refine wp_seq ?_
    refine at_reg (T := S_laws_szRecoderS_tab) [] { ts := [0, 1, 4], os := [] } ⟨[(0, aF s180 x0), (1, aI (x1 - ((List.length x0 : Nat) : Int))), (4, aI (-1))], []⟩ [] gamOK hT h (by kernel_rfl) trivial ?_
    intro a w h
    refine then_normal ?_
    refine wp_ret ?_
    refine then_ret ?_
    exact at_return (S := S_laws_szRecoderS) (x := (x0, x1, ())) ((-1), ()) [] h (by kernel_rfl) trivial (congrArg (fun z => (z, ())) (show ((-1)) = (szD s85) x0 x1 from by exact (szD_no (by omega)).symm))
  · replace h1 : ¬ (x1 - ((List.length x0 : Nat) : Int) < 0) := of_decide_eq_false h1
    refine wp_skip ?_
    refine then_normal ?_
    refine wp_seq ?_
    refine wp_seq ?_
    refine at_reg (T := S_laws_szRecoderS_tab) [] { ts := [0, 1, 4, 5], os := [] } ⟨[(0, aF s180 x0), (1, aI (x1 - ((List.length x0 : Nat) : Int))), (4, aI 0), (5, aI 0)], []⟩ [] gamOK hT h (by kernel_rfl) trivial ?_
    intro a w h
    refine then_normal ?_
    refine wp_block ?_
    replace h := at_out (σ' := ⟨[(0, aF s180 x0), (1, aI (x1 - ((List.length x0 : Nat) : Int))), (4, aI 0), (5, aI 0)], []⟩) { ts := [0, 1, 4, 5], os := [] } h (by kernel_rfl)
    refine at_loop (fun i : Nat => (⟨[(0, aF s180 x0), (1, aI (x1 - ((List.length x0 : Nat) : Int) - ((ctL (Sh.sz s180) (List.take i x0) : Nat) : Int))), (4, aI 0), (5, aI ((i : Nat) : Int))], []⟩ : St)) (fun i => (i ≤ List.length x0 ∧ ((List.length x0 : Nat) : Int) + ((ctL (Sh.sz s180) (List.take i x0) : Nat) : Int) ≤ x1)) (fun i => List.length x0 - i) (0) h (st_congr2 (fun (d0 : Int) (d1 : Int) => (⟨[(0, aF s180 x0), (1, aI d0), (4, aI 0), (5, aI d1)], []⟩ : St)) (show (x1 - ((List.length x0 : Nat) : Int) : Int) = (x1 - ((List.length x0 : Nat) : Int) - ((ctL (Sh.sz s180) (List.take (0) x0) : Nat) : Int)) from by first | rfl | (simp [ctL])) (show (0 : Int) = (((0) : Nat) : Int) from by first | rfl | (simp [ctL]))) (by simp [ctL]; omega) ?_
    intro i a w hok0 h
    refine wp_seq ?_
    refine wp_seq ?_
    refine at_regq (T := S_laws_szRecoderS_tab) [] { ts := [0, 1, 4, 5, 15], os := [] } [] gamOK hT h (by kernel_rfl) trivial ?_
    intro a w h
    refine then_normal ?_
    refine at_test (decide (((i : Nat) : Int) < ((List.length x0 : Nat) : Int))) h (by kernel_rfl) (fun h2 => ?_) (fun h2 => ?_)
    · replace h2 : ((i : Nat) : Int) < ((List.length x0 : Nat) : Int) := of_decide_eq_true h2
      have hat := ctL_at_le (c := Sh.sz s180) (xs := x0) (z := (0, (0, (0, ([], 0))))) (i := i) (by omega)
      have hsu := ctL_take_succ (c := Sh.sz s180) (xs := x0) (z := (0, (0, (0, ([], 0))))) (i := i) (by omega)
      refine wp_skip ?_
      refine then_normal ?_
      refine wp_seq ?_
      refine wp_block ?_
      refine wp_seq ?_
      refine at_regq (T := S_laws_szRecoderS_tab) [] { ts := [0, 1, 4, 5], os := [] } [(0 : Int) ≤ ((i : Nat) : Int) ∧ ((i : Nat) : Int) < ((List.length x0 : Nat) : Int), (pSz s180) (x0.getD i (0, (0, (0, ([], 0))))) (x1 - ((List.length x0 : Nat) : Int) - ((ctL (Sh.sz s180) (List.take i x0) : Nat) : Int))] gamOK hT h (by kernel_rfl) ⟨(by refine ⟨?_, ?_⟩ <;> (first | omega | (simp only [List.length_append, List.length_cons, List.length_nil, List.length_set, List.length_take, List.length_drop, List.length_replicate, List.length_map, Nat.min_def]; omega) | (simp; done) | (simp; omega) | done)), (by (show (0 : Int) ≤ _ ∧ _ ≤ (9223372036854775807 : Int); constructor <;> omega)), trivial⟩ ?_
      intro a w h
      refine then_normal ?_
      refine wp_seq ?_
      refine at_regq (T := S_laws_szRecoderS_tab) [] { ts := [0, 1, 4, 5, 25], os := [] } [] gamOK hT h (by kernel_rfl) trivial ?_
      intro a w h
      refine then_normal ?_
      refine at_test (decide (((szD s180) (x0.getD i (0, (0, (0, ([], 0))))) (x1 - ((List.length x0 : Nat) : Int) - ((ctL (Sh.sz s180) (List.take i x0) : Nat) : Int))) < 0)) h (by kernel_rfl) (fun h3 => ?_) (fun h3 => ?_)
      · replace h3 : ((szD s180) (x0.getD i (0, (0, (0, ([], 0))))) (x1 - ((List.length x0 : Nat) : Int) - ((ctL (Sh.sz s180) (List.take i x0) : Nat) : Int))) < 0 := of_decide_eq_true h3
        have hvh3 := szD_neg h3 (by omega)
        refine wp_seq ?_
        refine at_reg (T := S_laws_szRecoderS_tab) [] { ts := [0, 1, 4, 5], os := [] } ⟨[(0, aF s180 x0), (1, aI ((szD s180) (x0.getD i (0, (0, (0, ([], 0))))) (x1 - ((List.length x0 : Nat) : Int) - ((ctL (Sh.sz s180) (List.take i x0) : Nat) : Int)))), (4, aI (-1)), (5, aI ((i : Nat) : Int))], []⟩ [] gamOK hT h (by kernel_rfl) trivial ?_
        intro a w h
        refine then_normal ?_
        refine wp_ret ?_
        refine in_ret ?_
        refine then_ret ?_
        refine then_ret ?_
        refine in_ret ?_
        refine then_ret ?_
        exact at_return (S := S_laws_szRecoderS) (x := (x0, x1, ())) ((-1), ()) [] h (by kernel_rfl) trivial (congrArg (fun z => (z, ())) (show ((-1)) = (szD s85) x0 x1 from by exact (szD_no (by omega)).symm))
      · replace h3 : ¬ (((szD s180) (x0.getD i (0, (0, (0, ([], 0))))) (x1 - ((List.length x0 : Nat) : Int) - ((ctL (Sh.sz s180) (List.take i x0) : Nat) : Int))) < 0) := of_decide_eq_false h3
        have hvh3 := szD_val h3 (by omega)
        refine wp_skip ?_
        refine in_normal ?_
        refine then_normal ?_
        refine at_reg (T := S_laws_szRecoderS_tab) [{}, { nw := true }] { ts := [0, 1, 4, 5], os := [] } ⟨[(0, aF s180 x0), (1, aI ((szD s180) (x0.getD i (0, (0, (0, ([], 0))))) (x1 - ((List.length x0 : Nat) : Int) - ((ctL (Sh.sz s180) (List.take i x0) : Nat) : Int)))), (4, aI 0), (5, aI (((i : Nat) : Int) + 1))], []⟩ [I64 (((i : Nat) : Int) + 1)] gamOK hT h (by kernel_rfl) ⟨⟨by first | omega | (simp only [List.length_append, List.length_cons, List.length_nil, List.length_set, List.length_take, List.length_drop, List.length_replicate, List.length_map, Nat.min_def]; omega) | (simp; done) | (simp; omega) | done, by first | omega | (simp only [List.length_append, List.length_cons, List.length_nil, List.length_set, List.length_take, List.length_drop, List.length_replicate, List.length_map, Nat.min_def]; omega) | (simp; done) | (simp; omega) | done⟩, trivial⟩ ?_
        intro a w h
        replace h := at_out (σ' := ⟨[(0, aF s180 x0), (1, aI ((szD s180) (x0.getD i (0, (0, (0, ([], 0))))) (x1 - ((List.length x0 : Nat) : Int) - ((ctL (Sh.sz s180) (List.take i x0) : Nat) : Int)))), (4, aI 0), (5, aI (((i : Nat) : Int) + 1))], []⟩) { ts := [0, 1, 4, 5], os := [] } h (by kernel_rfl)
        exact ⟨i + 1, at_eq h (st_congr2 (fun (d0 : Int) (d1 : Int) => (⟨[(0, aF s180 x0), (1, aI d0), (4, aI 0), (5, aI d1)], []⟩ : St)) (show (((szD s180) (x0.getD i (0, (0, (0, ([], 0))))) (x1 - ((List.length x0 : Nat) : Int) - ((ctL (Sh.sz s180) (List.take i x0) : Nat) : Int))) : Int) = (x1 - ((List.length x0 : Nat) : Int) - ((ctL (Sh.sz s180) (List.take (i + 1) x0) : Nat) : Int)) from by first | rfl | (omega)) (show (((i : Nat) : Int) + 1 : Int) = (((i + 1) : Nat) : Int) from by first | rfl | (omega))), (by constructor <;> omega), (by omega)⟩
    · replace h2 : ¬ (((i : Nat) : Int) < ((List.length x0 : Nat) : Int)) := of_decide_eq_false h2
      refine wp_exit ?_
      refine then_exit ?_
      refine then_exit ?_
      refine in_hit ?_
      refine then_normal ?_
      refine wp_seq ?_
      refine at_regq (T := S_laws_szRecoderS_tab) [] { ts := [4], os := [] } [] gamOK hT h (by kernel_rfl) trivial ?_
      intro a w h
      refine then_normal ?_
      refine wp_ret ?_
      exact at_return (S := S_laws_szRecoderS) (x := (x0, x1, ())) ((x1 - ((List.length x0 : Nat) : Int) - ((ctL (Sh.sz s180) (List.take i x0) : Nat) : Int)), ()) [] h (by kernel_rfl) trivial (congrArg (fun z => (z, ())) (show ((x1 - ((List.length x0 : Nat) : Int) - ((ctL (Sh.sz s180) (List.take i x0) : Nat) : Int))) = (szD s85) x0 x1 from by (have hta : ctL (Sh.sz s180) (List.take i x0) = ctL (Sh.sz s180) x0 := congrArg (ctL (Sh.sz s180)) (take_all (by omega)); exact ((szD_ok (by omega)).trans (by omega)).symm)))

def S_laws_szRelay : Sum := { fid := 58, dom := [s87, (.int 3)], cod := [(.int 3)], dp := true, fz := false, pre := fun x => (pSz s87) x.1 x.2.1, g := fun x => (((szD s87) x.1 x.2.1), ()) }
def S_laws_szRelay_tab : List (Nat × Sum) := [(125, S_laws_szRecoderS)]
theorem S_laws_szRelay_ok : FnOK Try.prog 58 S_laws_szRelay := by
  refine at_enter 12 (fun x => ⟨[(0, aG [cI x.1.1, .ro s180 x.1.2]), (1, aI x.2.1)], []⟩) Try.func58 rfl (by kernel_rfl) (fun x => rfl) ?_
  rintro w0 Z0 ⟨x0, x1, u⟩ a w
  revert x0 x1
  intro (x0 : T87) (x1 : Int) hpre hlens h
  replace h : At w0 Z0 [] 12 ⟨[(0, aG [cI x0.1, .ro s180 x0.2]), (1, aI x1)], []⟩ a w := h
  replace hpre : (pSz s87) x0 x1 := hpre
  have hl1 : List.length x0.2 ≤ 9223372036854775807 := hlens.1.2.1
  have hT : TabOK Try.prog S_laws_szRelay_tab := (.cons S_laws_szRecoderS_ok .nil)
  have hp : 0 ≤ x1 ∧ x1 ≤ 9223372036854775807 := hpre
  have hsz : Sh.sz s87 x0 = (0 + (Sh.sz s85 x0.2)) := rfl
  refine wp_seq ?_
  refine at_regq (T := S_laws_szRelay_tab) [{ ids := [1] }] { ts := [1, 2, 4], os := [1] } [] gamOK hT h (by kernel_rfl) trivial ?_
  intro a w h
  refine then_normal ?_
  refine wp_seq ?_
  refine at_regq (T := S_laws_szRelay_tab) [] { ts := [1, 4], os := [] } [(pSz s85) x0.2 x1] gamOK hT h (by kernel_rfl) ⟨(by (show (0 : Int) ≤ _ ∧ _ ≤ (9223372036854775807 : Int); constructor <;> omega)), trivial⟩ ?_
  intro a w h
  refine then_normal ?_
  refine wp_seq ?_
  refine wp_seq ?_
  refine at_regq (T := S_laws_szRelay_tab) [] { ts := [1, 4, 10], os := [] } [] gamOK hT h (by kernel_rfl) trivial ?_
  intro a w h
  refine then_normal ?_
  refine at_test (decide (((szD s85) x0.2 x1) < 0)) h (by kernel_rfl) (fun h1 => ?_) (fun h1 => ?_)
  · replace h1 : ((szD s85) x0.2 x1) < 0 := of_decide_eq_true h1
    have hvh1 := szD_neg h1 (by omega)
    refine wp_seq ?_
    refine at_reg (T := S_laws_szRelay_tab) [] { ts := [1, 4], os := [] } ⟨[(1, aI ((szD s85) x0.2 x1)), (4, aI (-1))], []⟩ [] gamOK hT h (by kernel_rfl) trivial ?_
    intro a w h
    refine then_normal ?_
    refine wp_ret ?_
    refine then_ret ?_
    exact at_return (S := S_laws_szRelay) (x := (x0, x1, ())) ((-1), ()) [] h (by kernel_rfl) trivial (congrArg (fun z => (z, ())) (show ((-1)) = (szD s87) x0 x1 from by (first | exact (szD_no (by omega)).symm | exact ((szD_ok (by omega)).trans (by omega)).symm)))
  · replace h1 : ¬ (((szD s85) x0.2 x1) < 0) := of_decide_eq_false h1
    have hvh1 := szD_val h1 (by omega)
    refine wp_skip ?_
    refine then_normal ?_
    refine wp_seq ?_
    refine at_reg (T := S_laws_szRelay_tab) [] { ts := [4], os := [] } ⟨[(4, aI ((szD s85) x0.2 x1))], []⟩ [] gamOK hT h (by kernel_rfl) trivial ?_
    intro a w h
    refine then_normal ?_
    refine wp_ret ?_
    exact at_return (S := S_laws_szRelay) (x := (x0, x1, ())) (((szD s85) x0.2 x1), ()) [] h (by kernel_rfl) trivial (congrArg (fun z => (z, ())) (show (((szD s85) x0.2 x1)) = (szD s87) x0 x1 from by (first | exact (szD_no (by omega)).symm | exact ((szD_ok (by omega)).trans (by omega)).symm)))

def S_laws_toIntS : Sum := { fid := 32, dom := [s34], cod := [s34], dp := true, fz := false, pre := fun x => (pTo s34) x.1, g := fun x => (((idD s34) x.1), ()) }
def S_laws_toIntS_tab : List (Nat × Sum) := []
theorem S_laws_toIntS_ok : FnOK Try.prog 32 S_laws_toIntS := by
  refine at_enter 22 (fun x => ⟨[(0, aF (.int 3) x.1)], []⟩) Try.func32 rfl (by kernel_rfl) (fun x => rfl) ?_
  rintro w0 Z0 ⟨x0, u⟩ a w
  revert x0
  intro (x0 : (List Int)) hpre hlens h
  replace h : At w0 Z0 [] 22 ⟨[(0, aF (.int 3) x0)], []⟩ a w := h
  replace hpre : (pTo s34) x0 := hpre
  have hl1 : List.length x0 ≤ 9223372036854775807 := hlens.1.1
  have hT : TabOK Try.prog S_laws_toIntS_tab := .nil
  have hp : Sh.sz s34 x0 ≤ 1048576 := hpre
  have hsz : Sh.sz s34 x0 = List.length x0 + ctL (Sh.sz (.int 3)) x0 := rfl
  refine wp_seq ?_
  refine at_regq (T := S_laws_toIntS_tab) [] { ts := [0, 2], os := [] } [] gamOK hT h (by kernel_rfl) trivial ?_
  intro a w h
  refine then_normal ?_
  refine wp_seq ?_
  refine at_regq (T := S_laws_toIntS_tab) [{}, {}, { ids := [1] }] { ts := [0, 2, 3], os := [1] } [(0 : Int) ≤ ((List.length x0 : Nat) : Int) ∧ ((List.length x0 : Nat) : Int) = ((List.length x0 : Nat) : Int) ∧ ((List.length x0 : Nat) : Int) * (8 : Nat) ≤ (140737488355328 : Int)] gamOK hT h (by kernel_rfl) ⟨(by refine ⟨?_, ?_, ?_⟩ <;> ((have hA0 := mul_f ((List.length x0 : Nat) : Int) (8 : Nat); first | omega | (simp only [List.length_append, List.length_cons, List.length_nil, List.length_set, List.length_take, List.length_drop, List.length_replicate, List.length_map, Nat.min_def, copyTo_len hok0]; omega) | (simp; done) | (simp; omega) | done))), trivial⟩ ?_
  intro a w h
  refine then_normal ?_
  refine wp_seq ?_
  refine wp_seq ?_
  refine at_regq (T := S_laws_toIntS_tab) [] { ts := [0, 2, 3, 4], os := [1] } [] gamOK hT h (by kernel_rfl) trivial ?_
  intro a w h
  refine then_normal ?_
  refine wp_block ?_
  replace h := at_out (σ' := ⟨[(0, aF (.int 3) x0), (2, .p (.c (cN))), (3, aS 1), (4, aI 0)], [(1, oR (.int 3) (List.replicate (List.length x0) 0))]⟩) { ts := [0, 2, 3, 4], os := [1] } h (by kernel_rfl)
  refine at_loop (fun i : Nat => (⟨[(0, aF (.int 3) x0), (2, .p (.c (cN))), (3, aS 1), (4, aI ((i : Nat) : Int))], [(1, oR (.int 3) (copyTo 0 x0 i))]⟩ : St)) (fun i => i ≤ List.length x0) (fun i => List.length x0 - i) (0) h (st_congr2 (fun (d0 : List Int) (d1 : Int) => (⟨[(0, aF (.int 3) x0), (2, .p (.c (cN))), (3, aS 1), (4, aI d1)], [(1, oR (.int 3) d0)]⟩ : St)) (show ((List.replicate (List.length x0) 0) : List Int) = (copyTo 0 x0 (0)) from by first | rfl | (exact copyTo_zero)) (show (0 : Int) = (((0) : Nat) : Int) from by first | rfl | (exact copyTo_zero))) (by first | omega | simp | (refine ⟨?_, ?_⟩ <;> first | omega | simp)) ?_
  intro i a w hok0 h
  refine wp_seq ?_
  refine wp_seq ?_
  refine at_reg (T := S_laws_toIntS_tab) [] { ts := [0, 2, 3, 4, 11], os := [1] } ⟨[(0, aF (.int 3) x0), (2, .p (.c (cN))), (3, aS 1), (4, aI ((i : Nat) : Int)), (11, aB (decide (((i : Nat) : Int) < ((List.length x0 : Nat) : Int))))], [(1, oR (.int 3) (copyTo 0 x0 i))]⟩ [] gamOK hT h (by kernel_rfl) trivial ?_
  intro a w h
  refine then_normal ?_
  refine at_test (decide (((i : Nat) : Int) < ((List.length x0 : Nat) : Int))) h (by kernel_rfl) (fun h1 => ?_) (fun h1 => ?_)
  · replace h1 : ((i : Nat) : Int) < ((List.length x0 : Nat) : Int) := of_decide_eq_true h1
    have hat := ctL_at_le (c := Sh.sz (.int 3)) (xs := x0) (z := 0) (i := i) (by omega)
    refine wp_skip ?_
    refine then_normal ?_
    refine wp_seq ?_
    refine wp_block ?_
    refine at_regq (T := S_laws_toIntS_tab) [] { ts := [0, 2, 3, 4], os := [1] } [(0 : Int) ≤ ((i : Nat) : Int) ∧ ((i : Nat) : Int) < ((List.length x0 : Nat) : Int), (0 : Int) ≤ ((i : Nat) : Int) ∧ ((i : Nat) : Int) < ((List.length (copyTo 0 x0 i) : Nat) : Int), i < List.length (copyTo 0 x0 i)] gamOK hT h (by kernel_rfl) ⟨(by refine ⟨?_, ?_⟩ <;> (first | omega | (simp only [List.length_append, List.length_cons, List.length_nil, List.length_set, List.length_take, List.length_drop, List.length_replicate, List.length_map, Nat.min_def, copyTo_len hok0]; omega) | (simp; done) | (simp; omega) | done)), (by refine ⟨?_, ?_⟩ <;> (first | omega | (simp only [List.length_append, List.length_cons, List.length_nil, List.length_set, List.length_take, List.length_drop, List.length_replicate, List.length_map, Nat.min_def, copyTo_len hok0]; omega) | (simp; done) | (simp; omega) | done)), (by first | omega | (simp only [List.length_append, List.length_cons, List.length_nil, List.length_set, List.length_take, List.length_drop, List.length_replicate, List.length_map, Nat.min_def, copyTo_len hok0]; omega) | (simp; done) | (simp; omega) | done), trivial⟩ ?_
    intro a w h
    refine in_normal ?_
    refine then_normal ?_
    refine at_regq (T := S_laws_toIntS_tab) [{}, { nw := true }] { ts := [0, 2, 3, 4], os := [1] } [I64 (((i : Nat) : Int) + 1)] gamOK hT h (by kernel_rfl) ⟨⟨by first | omega | (simp only [List.length_append, List.length_cons, List.length_nil, List.length_set, List.length_take, List.length_drop, List.length_replicate, List.length_map, Nat.min_def, copyTo_len hok0]; omega) | (simp; done) | (simp; omega) | done, by first | omega | (simp only [List.length_append, List.length_cons, List.length_nil, List.length_set, List.length_take, List.length_drop, List.length_replicate, List.length_map, Nat.min_def, copyTo_len hok0]; omega) | (simp; done) | (simp; omega) | done⟩, trivial⟩ ?_
    intro a w h
    replace h := at_out (σ' := ⟨[(0, aF (.int 3) x0), (2, .p (.c (cN))), (3, aS 1), (4, aI (((i : Nat) : Int) + 1))], [(1, oR (.int 3) (List.set (copyTo 0 x0 i) i (x0.getD i 0)))]⟩) { ts := [0, 2, 3, 4], os := [1] } h (by kernel_rfl)
    exact ⟨i + 1, at_eq h (st_congr2 (fun (d0 : List Int) (d1 : Int) => (⟨[(0, aF (.int 3) x0), (2, .p (.c (cN))), (3, aS 1), (4, aI d1)], [(1, oR (.int 3) d0)]⟩ : St)) (show ((List.set (copyTo 0 x0 i) i (x0.getD i 0)) : List Int) = (copyTo 0 x0 (i + 1)) from by first | rfl | (exact copyTo_set (by omega))) (show (((i : Nat) : Int) + 1 : Int) = (((i + 1) : Nat) : Int) from by first | rfl | (omega))), (by first | omega | (refine ⟨?_, ?_⟩ <;> omega)), (by omega)⟩
  · replace h1 : ¬ (((i : Nat) : Int) < ((List.length x0 : Nat) : Int)) := of_decide_eq_false h1
    refine wp_exit ?_
    refine then_exit ?_
    refine then_exit ?_
    refine in_hit ?_
    refine then_normal ?_
    refine wp_seq ?_
    refine at_regq (T := S_laws_toIntS_tab) [] { ts := [2], os := [1] } [] gamOK hT h (by kernel_rfl) trivial ?_
    intro a w h
    refine then_normal ?_
    refine wp_ret ?_
    exact at_return (S := S_laws_toIntS) (x := (x0, ())) ((copyTo 0 x0 i), ()) [] h (by kernel_rfl) trivial (congrArg (fun z => (z, ())) (show ((copyTo 0 x0 i)) = (idD s34) x0 from by (rw [copyTo_all (by omega)]; rfl)))

def S_laws_toCodedPacket : Sum := { fid := 24, dom := [s36], cod := [s38], dp := true, fz := false, pre := fun x => (pTo s36) x.1, g := fun x => (((idD s36) x.1), ()) }
def S_laws_toCodedPacket_tab : List (Nat × Sum) := [(32, S_laws_toIntS)]
theorem S_laws_toCodedPacket_ok : FnOK Try.prog 24 S_laws_toCodedPacket := by
  refine at_enter 16 (fun x => ⟨[(0, aG [cI x.1.1, .ro (.int 3) x.1.2.1, .ro (.int 3) x.1.2.2])], []⟩) Try.func24 rfl (by kernel_rfl) (fun x => rfl) ?_
  rintro w0 Z0 ⟨x0, u⟩ a w
  revert x0
  intro (x0 : T36) hpre hlens h
  replace h : At w0 Z0 [] 16 ⟨[(0, aG [cI x0.1, .ro (.int 3) x0.2.1, .ro (.int 3) x0.2.2])], []⟩ a w := h
  replace hpre : (pTo s36) x0 := hpre
  have hl1 : List.length x0.2.1 ≤ 9223372036854775807 := hlens.1.2.1.1
  have hl2 : List.length x0.2.2 ≤ 9223372036854775807 := hlens.1.2.2.1
  have hT : TabOK Try.prog S_laws_toCodedPacket_tab := (.cons S_laws_toIntS_ok .nil)
  have hp : Sh.sz s36 x0 ≤ 1048576 := hpre
  have hsz : Sh.sz s36 x0 = (0 + ((Sh.sz s34 x0.2.1) + (Sh.sz s34 x0.2.2))) := rfl
  refine wp_seq ?_
  refine at_regq (T := S_laws_toCodedPacket_tab) [{ ids := [1] }, { ids := [2] }] { ts := [1, 2], os := [1, 2] } [] gamOK hT h (by kernel_rfl) trivial ?_
  intro a w h
  refine then_normal ?_
  refine wp_seq ?_
  refine at_regq (T := S_laws_toCodedPacket_tab) [{ ids := [3] }] { ts := [1, 2, 3], os := [1, 2, 3] } [] gamOK hT h (by kernel_rfl) trivial ?_
  intro a w h
  refine then_normal ?_
  refine wp_seq ?_
  refine at_regq (T := S_laws_toCodedPacket_tab) [] { ts := [1, 2, 3], os := [1, 2, 3] } [] gamOK hT h (by kernel_rfl) trivial ?_
  intro a w h
  refine then_normal ?_
  refine wp_seq ?_
  refine at_reg (T := S_laws_toCodedPacket_tab) [{}, {}, { ids := [4] }] { ts := [1, 2, 3], os := [1, 2, 3, 4] } ⟨[(1, aP 1 0), (2, aP 2 0), (3, aP 3 0)], [(1, oX 36 [cI x0.1, .ro (.int 3) x0.2.1, .ro (.int 3) x0.2.2]), (2, oX 38 [cI 0, cN, cN]), (3, oX 38 [cI x0.1, .sl 4, cN]), (4, oR (.int 3) x0.2.1)]⟩ [(pTo s34) x0.2.1] gamOK hT h (by kernel_rfl) ⟨(by (show Sh.sz _ _ ≤ 1048576; omega)), trivial⟩ ?_
  intro a w h
  refine then_normal ?_
  refine wp_seq ?_
  refine at_regq (T := S_laws_toCodedPacket_tab) [{}, {}, { ids := [5] }] { ts := [2, 3], os := [2, 3, 4, 5] } [(pTo s34) x0.2.2] gamOK hT h (by kernel_rfl) ⟨(by (show Sh.sz _ _ ≤ 1048576; omega)), trivial⟩ ?_
  intro a w h
  refine then_normal ?_
  refine wp_seq ?_
  refine at_regq (T := S_laws_toCodedPacket_tab) [] { ts := [2], os := [2, 4, 5] } [] gamOK hT h (by kernel_rfl) trivial ?_
  intro a w h
  refine then_normal ?_
  refine wp_ret ?_
  exact at_return (S := S_laws_toCodedPacket) (x := (x0, ())) (x0, ()) [] h (by kernel_rfl) trivial (congrArg (fun z => (z, ())) (show (x0) = (idD s36) x0 from by rfl))

def S_laws_toCodedPacketS : Sum := { fid := 190, dom := [s178], cod := [s146], dp := true, fz := false, pre := fun x => (pTo s178) x.1, g := fun x => (((idD s178) x.1), ()) }
def S_laws_toCodedPacketS_tab : List (Nat × Sum) := [(24, S_laws_toCodedPacket)]
theorem S_laws_toCodedPacketS_ok : FnOK Try.prog 190 S_laws_toCodedPacketS := by
  refine at_enter 23 (fun x => ⟨[(0, aF s36 x.1)], []⟩) Try.func190 rfl (by kernel_rfl) (fun x => rfl) ?_
  rintro w0 Z0 ⟨x0, u⟩ a w
  revert x0
  intro (x0 : (List T36)) hpre hlens h
  replace h : At w0 Z0 [] 23 ⟨[(0, aF s36 x0)], []⟩ a w := h
  replace hpre : (pTo s178) x0 := hpre
  have hl1 : List.length x0 ≤ 9223372036854775807 := hlens.1.1
  have hT : TabOK Try.prog S_laws_toCodedPacketS_tab := (.cons S_laws_toCodedPacket_ok .nil)
  have hp : Sh.sz s178 x0 ≤ 1048576 := hpre
  have hsz : Sh.sz s178 x0 = List.length x0 + ctL (Sh.sz s36) x0 := rfl
  refine wp_seq ?_
  refine at_regq (T := S_laws_toCodedPacketS_tab) [] { ts := [0, 2], os := [] } [] gamOK hT h (by kernel_rfl) trivial ?_
  intro a w h
  refine then_normal ?_
  refine wp_seq ?_
  refine at_regq (T := S_laws_toCodedPacketS_tab) [{}, {}, { ids := [1] }] { ts := [0, 2, 3], os := [1] } [(0 : Int) ≤ ((List.length x0 : Nat) : Int) ∧ ((List.length x0 : Nat) : Int) = ((List.length x0 : Nat) : Int) ∧ ((List.length x0 : Nat) : Int) * (56 : Nat) ≤ (140737488355328 : Int)] gamOK hT h (by kernel_rfl) ⟨(by refine ⟨?_, ?_, ?_⟩ <;> ((have hA0 := mul_f ((List.length x0 : Nat) : Int) (56 : Nat); first | omega | (simp only [List.length_append, List.length_cons, List.length_nil, List.length_set, List.length_take, List.length_drop, List.length_replicate, List.length_map, Nat.min_def, copyTo_len hok0]; omega) | (simp; done) | (simp; omega) | done))), trivial⟩ ?_
  intro a w h
  refine then_normal ?_
  refine wp_seq ?_
  refine wp_seq ?_
  refine at_regq (T := S_laws_toCodedPacketS_tab) [] { ts := [0, 2, 3, 4], os := [1] } [] gamOK hT h (by kernel_rfl) trivial ?_
  intro a w h
  refine then_normal ?_
  refine wp_block ?_
  replace h := at_out (σ' := ⟨[(0, aF s36 x0), (2, .p (.c (cN))), (3, aS 1), (4, aI 0)], [(1, oR s38 (List.replicate (List.length x0) (0, ([], []))))]⟩) { ts := [0, 2, 3, 4], os := [1] } h (by kernel_rfl)
  refine at_loop (fun i : Nat => (⟨[(0, aF s36 x0), (2, .p (.c (cN))), (3, aS 1), (4, aI ((i : Nat) : Int))], [(1, oR s38 (copyTo (0, ([], [])) x0 i))]⟩ : St)) (fun i => i ≤ List.length x0) (fun i => List.length x0 - i) (0) h (st_congr2 (fun (d0 : List T38) (d1 : Int) => (⟨[(0, aF s36 x0), (2, .p (.c (cN))), (3, aS 1), (4, aI d1)], [(1, oR s38 d0)]⟩ : St)) (show ((List.replicate (List.length x0) (0, ([], []))) : List T38) = (copyTo (0, ([], [])) x0 (0)) from by first | rfl | (exact copyTo_zero)) (show (0 : Int) = (((0) : Nat) : Int) from by first | rfl | (exact copyTo_zero))) (by first | omega | simp | (refine ⟨?_, ?_⟩ <;> first | omega | simp)) ?_
  intro i a w hok0 h
  refine wp_seq ?_
  refine wp_seq ?_
  refine at_reg (T := S_laws_toCodedPacketS_tab) [] { ts := [0, 2, 3, 4, 11], os := [1] } ⟨[(0, aF s36 x0), (2, .p (.c (cN))), (3, aS 1), (4, aI ((i : Nat) : Int)), (11, aB (decide (((i : Nat) : Int) < ((List.length x0 : Nat) : Int))))], [(1, oR s38 (copyTo (0, ([], [])) x0 i))]⟩ [] gamOK hT h (by kernel_rfl) trivial ?_
  intro a w h
  refine then_normal ?_
  refine at_test (decide (((i : Nat) : Int) < ((List.length x0 : Nat) : Int))) h (by kernel_rfl) (fun h1 => ?_) (fun h1 => ?_)
  · replace h1 : ((i : Nat) : Int) < ((List.length x0 : Nat) : Int) := of_decide_eq_true h1
    have hat := ctL_at_le (c := Sh.sz s36) (xs := x0) (z := (0, ([], []))) (i := i) (by omega)
    refine wp_skip ?_
    refine then_normal ?_
    refine wp_seq ?_
    refine wp_block ?_
    refine at_regq (T := S_laws_toCodedPacketS_tab) [{}, {}, {}, {}, {}, {}, { ids := [2, 3] }] { ts := [0, 2, 3, 4], os := [1] } [(0 : Int) ≤ ((i : Nat) : Int) ∧ ((i : Nat) : Int) < ((List.length x0 : Nat) : Int), (pTo s36) (x0.getD i (0, ([], []))), (0 : Int) ≤ ((i : Nat) : Int) ∧ ((i : Nat) : Int) < ((List.length (copyTo (0, ([], [])) x0 i) : Nat) : Int), i < List.length (copyTo (0, ([], [])) x0 i)] gamOK hT h (by kernel_rfl) ⟨(by refine ⟨?_, ?_⟩ <;> (first | omega | (simp only [List.length_append, List.length_cons, List.length_nil, List.length_set, List.length_take, List.length_drop, List.length_replicate, List.length_map, Nat.min_def, copyTo_len hok0]; omega) | (simp; done) | (simp; omega) | done)), (by (show Sh.sz _ _ ≤ 1048576; omega)), (by refine ⟨?_, ?_⟩ <;> (first | omega | (simp only [List.length_append, List.length_cons, List.length_nil, List.length_set, List.length_take, List.length_drop, List.length_replicate, List.length_map, Nat.min_def, copyTo_len hok0]; omega) | (simp; done) | (simp; omega) | done)), (by first | omega | (simp only [List.length_append, List.length_cons, List.length_nil, List.length_set, List.length_take, List.length_drop, List.length_replicate, List.length_map, Nat.min_def, copyTo_len hok0]; omega) | (simp; done) | (simp; omega) | done), trivial⟩ ?_
    intro a w h
    refine in_normal ?_
    refine then_normal ?_
    refine at_regq (T := S_laws_toCodedPacketS_tab) [{}, { nw := true }] { ts := [0, 2, 3, 4], os := [1] } [I64 (((i : Nat) : Int) + 1)] gamOK hT h (by kernel_rfl) ⟨⟨by first | omega | (simp only [List.length_append, List.length_cons, List.length_nil, List.length_set, List.length_take, List.length_drop, List.length_replicate, List.length_map, Nat.min_def, copyTo_len hok0]; omega) | (simp; done) | (simp; omega) | done, by first | omega | (simp only [List.length_append, List.length_cons, List.length_nil, List.length_set, List.length_take, List.length_drop, List.length_replicate, List.length_map, Nat.min_def, copyTo_len hok0]; omega) | (simp; done) | (simp; omega) | done⟩, trivial⟩ ?_
    intro a w h
    replace h := at_out (σ' := ⟨[(0, aF s36 x0), (2, .p (.c (cN))), (3, aS 1), (4, aI (((i : Nat) : Int) + 1))], [(1, oR s38 (List.set (copyTo (0, ([], [])) x0 i) i (x0.getD i (0, ([], [])))))]⟩) { ts := [0, 2, 3, 4], os := [1] } h (by kernel_rfl)
    exact ⟨i + 1, at_eq h (st_congr2 (fun (d0 : List T38) (d1 : Int) => (⟨[(0, aF s36 x0), (2, .p (.c (cN))), (3, aS 1), (4, aI d1)], [(1, oR s38 d0)]⟩ : St)) (show ((List.set (copyTo (0, ([], [])) x0 i) i (x0.getD i (0, ([], [])))) : List T38) = (copyTo (0, ([], [])) x0 (i + 1)) from by first | rfl | (exact copyTo_set (by omega))) (show (((i : Nat) : Int) + 1 : Int) = (((i + 1) : Nat) : Int) from by first | rfl | (omega))), (by first | omega | (refine ⟨?_, ?_⟩ <;> omega)), (by omega)⟩
  · replace h1 : ¬ (((i : Nat) : Int) < ((List.length x0 : Nat) : Int)) := of_decide_eq_false h1
    refine wp_exit ?_
    refine then_exit ?_
    refine then_exit ?_
    refine in_hit ?_
    refine then_normal ?_
    refine wp_seq ?_
    refine at_regq (T := S_laws_toCodedPacketS_tab) [] { ts := [2], os := [1] } [] gamOK hT h (by kernel_rfl) trivial ?_
    intro a w h
    refine then_normal ?_
    refine wp_ret ?_
    exact at_return (S := S_laws_toCodedPacketS) (x := (x0, ())) ((copyTo (0, ([], [])) x0 i), ()) [] h (by kernel_rfl) trivial (congrArg (fun z => (z, ())) (show ((copyTo (0, ([], [])) x0 i)) = (idD s178) x0 from by (rw [copyTo_all (by omega)]; rfl)))

def S_laws_toRecoder : Sum := { fid := 168, dom := [s180], cod := [s148], dp := true, fz := false, pre := fun x => (pTo s180) x.1, g := fun x => (((idD s180) x.1), ()) }
def S_laws_toRecoder_tab : List (Nat × Sum) := [(190, S_laws_toCodedPacketS)]
theorem S_laws_toRecoder_ok : FnOK Try.prog 168 S_laws_toRecoder := by
  refine at_enter 21 (fun x => ⟨[(0, aG [cI x.1.1, cI x.1.2.1, cI x.1.2.2.1, .ro s36 x.1.2.2.2.1, cI x.1.2.2.2.2])], []⟩) Try.func168 rfl (by kernel_rfl) (fun x => rfl) ?_
  rintro w0 Z0 ⟨x0, u⟩ a w
  revert x0
  intro (x0 : T180) hpre hlens h
  replace h : At w0 Z0 [] 21 ⟨[(0, aG [cI x0.1, cI x0.2.1, cI x0.2.2.1, .ro s36 x0.2.2.2.1, cI x0.2.2.2.2])], []⟩ a w := h
  replace hpre : (pTo s180) x0 := hpre
  have hl1 : List.length x0.2.2.2.1 ≤ 9223372036854775807 := hlens.1.2.2.2.1.1
  have hT : TabOK Try.prog S_laws_toRecoder_tab := (.cons S_laws_toCodedPacketS_ok .nil)
  have hp : Sh.sz s180 x0 ≤ 1048576 := hpre
  have hsz : Sh.sz s180 x0 = (0 + (0 + (0 + ((Sh.sz s178 x0.2.2.2.1) + 0)))) := rfl
  refine wp_seq ?_
  refine at_regq (T := S_laws_toRecoder_tab) [{ ids := [1] }, { ids := [2] }] { ts := [1, 2], os := [1, 2] } [] gamOK hT h (by kernel_rfl) trivial ?_
  intro a w h
  refine then_normal ?_
  refine wp_seq ?_
  refine at_regq (T := S_laws_toRecoder_tab) [{ ids := [3] }] { ts := [1, 2, 3], os := [1, 2, 3] } [] gamOK hT h (by kernel_rfl) trivial ?_
  intro a w h
  refine then_normal ?_
  refine wp_seq ?_
  refine at_regq (T := S_laws_toRecoder_tab) [] { ts := [1, 2, 3], os := [1, 2, 3] } [] gamOK hT h (by kernel_rfl) trivial ?_
  intro a w h
  refine then_normal ?_
  refine wp_seq ?_
  refine at_reg (T := S_laws_toRecoder_tab) [] { ts := [1, 2, 3], os := [1, 2, 3] } ⟨[(1, aP 1 0), (2, aP 2 0), (3, aP 3 0)], [(1, oX 180 [cI x0.1, cI x0.2.1, cI x0.2.2.1, .ro s36 x0.2.2.2.1, cI x0.2.2.2.2]), (2, oX 148 [cI 0, cI 0, cI 0, cN, cI 0]), (3, oX 148 [cI x0.1, cI x0.2.1, cI 0, cN, cI 0])]⟩ [] gamOK hT h (by kernel_rfl) trivial ?_
  intro a w h
  refine then_normal ?_
  refine wp_seq ?_
  refine at_regq (T := S_laws_toRecoder_tab) [] { ts := [1, 2, 3], os := [1, 2, 3] } [] gamOK hT h (by kernel_rfl) trivial ?_
  intro a w h
  refine then_normal ?_
  refine wp_seq ?_
  refine at_regq (T := S_laws_toRecoder_tab) [{}, {}, { ids := [4] }] { ts := [1, 2, 3], os := [1, 2, 3, 4] } [(pTo s178) x0.2.2.2.1] gamOK hT h (by kernel_rfl) ⟨(by (show Sh.sz _ _ ≤ 1048576; omega)), trivial⟩ ?_
  intro a w h
  refine then_normal ?_
  refine wp_seq ?_
  refine at_regq (T := S_laws_toRecoder_tab) [] { ts := [2, 3], os := [2, 3, 4] } [] gamOK hT h (by kernel_rfl) trivial ?_
  intro a w h
  refine then_normal ?_
  refine wp_seq ?_
  refine at_reg (T := S_laws_toRecoder_tab) [] { ts := [2], os := [2, 4] } ⟨[(2, aP 2 0)], [(2, oX 148 [cI x0.1, cI x0.2.1, cI x0.2.2.1, .sl 4, cI x0.2.2.2.2]), (4, oR s38 x0.2.2.2.1)]⟩ [] gamOK hT h (by kernel_rfl) trivial ?_
  intro a w h
  refine then_normal ?_
  refine wp_ret ?_
  exact at_return (S := S_laws_toRecoder) (x := (x0, ())) (x0, ()) [] h (by kernel_rfl) trivial (congrArg (fun z => (z, ())) (show (x0) = (idD s180) x0 from by rfl))

def S_laws_toRecoderS : Sum := { fid := 126, dom := [s85], cod := [s90], dp := true, fz := false, pre := fun x => (pTo s85) x.1, g := fun x => (((idD s85) x.1), ()) }
def S_laws_toRecoderS_tab : List (Nat × Sum) := [(168, S_laws_toRecoder)]
theorem S_laws_toRecoderS_ok : FnOK Try.prog 126 S_laws_toRecoderS := by
  refine at_enter 23 (fun x => ⟨[(0, aF s180 x.1)], []⟩) Try.func126 rfl (by kernel_rfl) (fun x => rfl) ?_
  rintro w0 Z0 ⟨x0, u⟩ a w
  revert x0
  intro (x0 : (List T180)) hpre hlens h
  replace h : At w0 Z0 [] 23 ⟨[(0, aF s180 x0)], []⟩ a w := h
  replace hpre : (pTo s85) x0 := hpre
  have hl1 : List.length x0 ≤ 9223372036854775807 := hlens.1.1
  have hT : TabOK Try.prog S_laws_toRecoderS_tab := (.cons S_laws_toRecoder_ok .nil)
  have hp : Sh.sz s85 x0 ≤ 1048576 := hpre
  have hsz : Sh.sz s85 x0 = List.length x0 + ctL (Sh.sz s180) x0 := rfl
  refine wp_seq ?_
  refine at_regq (T := S_laws_toRecoderS_tab) [] { ts := [0, 2], os := [] } [] gamOK hT h (by kernel_rfl) trivial ?_
  intro a w h
  refine then_normal ?_
  refine wp_seq ?_
  refine at_regq (T := S_laws_toRecoderS_tab) [{}, {}, { ids := [1] }] { ts := [0, 2, 3], os := [1] } [(0 : Int) ≤ ((List.length x0 : Nat) : Int) ∧ ((List.length x0 : Nat) : Int) = ((List.length x0 : Nat) : Int) ∧ ((List.length x0 : Nat) : Int) * (56 : Nat) ≤ (140737488355328 : Int)] gamOK hT h (by kernel_rfl) ⟨(by refine ⟨?_, ?_, ?_⟩ <;> ((have hA0 := mul_f ((List.length x0 : Nat) : Int) (56 : Nat); first | omega | (simp only [List.length_append, List.length_cons, List.length_nil, List.length_set, List.length_take, List.length_drop, List.length_replicate, List.length_map, Nat.min_def, copyTo_len hok0]; omega) | (simp; done) | (simp; omega) | done))), trivial⟩ ?_
  intro a w h
  refine then_normal ?_
  refine wp_seq ?_
  refine wp_seq ?_
  refine at_regq (T := S_laws_toRecoderS_tab) [] { ts := [0, 2, 3, 4], os := [1] } [] gamOK hT h (by kernel_rfl) trivial ?_
  intro a w h
  refine then_normal ?_
  refine wp_block ?_
  replace h := at_out (σ' := ⟨[(0, aF s180 x0), (2, .p (.c (cN))), (3, aS 1), (4, aI 0)], [(1, oR s148 (List.replicate (List.length x0) (0, (0, (0, ([], 0))))))]⟩) { ts := [0, 2, 3, 4], os := [1] } h (by kernel_rfl)
  refine at_loop (fun i : Nat => (⟨[(0, aF s180 x0), (2, .p (.c (cN))), (3, aS 1), (4, aI ((i : Nat) : Int))], [(1, oR s148 (copyTo (0, (0, (0, ([], 0)))) x0 i))]⟩ : St)) (fun i => i ≤ List.length x0) (fun i => List.length x0 - i) (0) h (st_congr2 (fun (d0 : List T148) (d1 : Int) => (⟨[(0, aF s180 x0), (2, .p (.c (cN))), (3, aS 1), (4, aI d1)], [(1, oR s148 d0)]⟩ : St)) (show ((List.replicate (List.length x0) (0, (0, (0, ([], 0))))) : List T148) = (copyTo (0, (0, (0, ([], 0)))) x0 (0)) from by first | rfl | (exact copyTo_zero)) (show (0 : Int) = (((0) : Nat) : Int) from by first | rfl | (exact copyTo_zero))) (by first | omega | simp | (refine ⟨?_, ?_⟩ <;> first | omega | simp)) ?_
  intro i a w hok0 h
  refine wp_seq ?_
  refine wp_seq ?_
  refine at_reg (T := S_laws_toRecoderS_tab) [] { ts := [0, 2, 3, 4, 11], os := [1] } ⟨[(0, aF s180 x0), (2, .p (.c (cN))), (3, aS 1), (4, aI ((i : Nat) : Int)), (11, aB (decide (((i : Nat) : Int) < ((List.length x0 : Nat) : Int))))], [(1, oR s148 (copyTo (0, (0, (0, ([], 0)))) x0 i))]⟩ [] gamOK hT h (by kernel_rfl) trivial ?_
  intro a w h
  refine then_normal ?_
  refine at_test (decide (((i : Nat) : Int) < ((List.length x0 : Nat) : Int))) h (by kernel_rfl) (fun h1 => ?_) (fun h1 => ?_)
  · replace h1 : ((i : Nat) : Int) < ((List.length x0 : Nat) : Int) := of_decide_eq_true h1
    have hat := ctL_at_le (c := Sh.sz s180) (xs := x0) (z := (0, (0, (0, ([], 0))))) (i := i) (by omega)
    refine wp_skip ?_
    refine then_normal ?_
    refine wp_seq ?_
    refine wp_block ?_
    refine at_regq (T := S_laws_toRecoderS_tab) [{}, {}, {}, {}, {}, {}, { ids := [2] }] { ts := [0, 2, 3, 4], os := [1] } [(0 : Int) ≤ ((i : Nat) : Int) ∧ ((i : Nat) : Int) < ((List.length x0 : Nat) : Int), (pTo s180) (x0.getD i (0, (0, (0, ([], 0))))), (0 : Int) ≤ ((i : Nat) : Int) ∧ ((i : Nat) : Int) < ((List.length (copyTo (0, (0, (0, ([], 0)))) x0 i) : Nat) : Int), i < List.length (copyTo (0, (0, (0, ([], 0)))) x0 i)] gamOK hT h (by kernel_rfl) ⟨(by refine ⟨?_, ?_⟩ <;> (first | omega | (simp only [List.length_append, List.length_cons, List.length_nil, List.length_set, List.length_take, List.length_drop, List.length_replicate, List.length_map, Nat.min_def, copyTo_len hok0]; omega) | (simp; done) | (simp; omega) | done)), (by (show Sh.sz _ _ ≤ 1048576; omega)), (by refine ⟨?_, ?_⟩ <;> (first | omega | (simp only [List.length_append, List.length_cons, List.length_nil, List.length_set, List.length_take, List.length_drop, List.length_replicate, List.length_map, Nat.min_def, copyTo_len hok0]; omega) | (simp; done) | (simp; omega) | done)), (by first | omega | (simp only [List.length_append, List.length_cons, List.length_nil, List.length_set, List.length_take, List.length_drop, List.length_replicate, List.length_map, Nat.min_def, copyTo_len hok0]; omega) | (simp; done) | (simp; omega) | done), trivial⟩ ?_
    intro a w h
    refine in_normal ?_
    refine then_normal ?_
    refine at_regq (T := S_laws_toRecoderS_tab) [{}, { nw := true }] { ts := [0, 2, 3, 4], os := [1] } [I64 (((i : Nat) : Int) + 1)] gamOK hT h (by kernel_rfl) ⟨⟨by first | omega | (simp only [List.length_append, List.length_cons, List.length_nil, List.length_set, List.length_take, List.length_drop, List.length_replicate, List.length_map, Nat.min_def, copyTo_len hok0]; omega) | (simp; done) | (simp; omega) | done, by first | omega | (simp only [List.length_append, List.length_cons, List.length_nil, List.length_set, List.length_take, List.length_drop, List.length_replicate, List.length_map, Nat.min_def, copyTo_len hok0]; omega) | (simp; done) | (simp; omega) | done⟩, trivial⟩ ?_
    intro a w h
    replace h := at_out (σ' := ⟨[(0, aF s180 x0), (2, .p (.c (cN))), (3, aS 1), (4, aI (((i : Nat) : Int) + 1))], [(1, oR s148 (List.set (copyTo (0, (0, (0, ([], 0)))) x0 i) i (x0.getD i (0, (0, (0, ([], 0)))))))]⟩) { ts := [0, 2, 3, 4], os := [1] } h (by kernel_rfl)
    exact ⟨i + 1, at_eq h (st_congr2 (fun (d0 : List T148) (d1 : Int) => (⟨[(0, aF s180 x0), (2, .p (.c (cN))), (3, aS 1), (4, aI d1)], [(1, oR s148 d0)]⟩ : St)) (show ((List.set (copyTo (0, (0, (0, ([], 0)))) x0 i) i (x0.getD i (0, (0, (0, ([], 0)))))) : List T148) = (copyTo (0, (0, (0, ([], 0)))) x0 (i + 1)) from by first | rfl | (exact copyTo_set (by omega))) (show (((i : Nat) : Int) + 1 : Int) = (((i + 1) : Nat) : Int) from by first | rfl | (omega))), (by first | omega | (refine ⟨?_, ?_⟩ <;> omega)), (by omega)⟩
  · replace h1 : ¬ (((i : Nat) : Int) < ((List.length x0 : Nat) : Int)) := of_decide_eq_false h1
    refine wp_exit ?_
    refine then_exit ?_
    refine then_exit ?_
    refine in_hit ?_
    refine then_normal ?_
    refine wp_seq ?_
    refine at_regq (T := S_laws_toRecoderS_tab) [] { ts := [2], os := [1] } [] gamOK hT h (by kernel_rfl) trivial ?_
    intro a w h
    refine then_normal ?_
    refine wp_ret ?_
    exact at_return (S := S_laws_toRecoderS) (x := (x0, ())) ((copyTo (0, (0, (0, ([], 0)))) x0 i), ()) [] h (by kernel_rfl) trivial (congrArg (fun z => (z, ())) (show ((copyTo (0, (0, (0, ([], 0)))) x0 i)) = (idD s85) x0 from by (rw [copyTo_all (by omega)]; rfl)))

def S_laws_toRelay : Sum := { fid := 60, dom := [s87], cod := [s92], dp := true, fz := false, pre := fun x => (pTo s87) x.1, g := fun x => (((idD s87) x.1), ()) }
def S_laws_toRelay_tab : List (Nat × Sum) := [(126, S_laws_toRecoderS)]
theorem S_laws_toRelay_ok : FnOK Try.prog 60 S_laws_toRelay := by
  refine at_enter 12 (fun x => ⟨[(0, aG [cI x.1.1, .ro s180 x.1.2])], []⟩) Try.func60 rfl (by kernel_rfl) (fun x => rfl) ?_
  rintro w0 Z0 ⟨x0, u⟩ a w
  revert x0
  intro (x0 : T87) hpre hlens h
  replace h : At w0 Z0 [] 12 ⟨[(0, aG [cI x0.1, .ro s180 x0.2])], []⟩ a w := h
  replace hpre : (pTo s87) x0 := hpre
  have hl1 : List.length x0.2 ≤ 9223372036854775807 := hlens.1.2.1
  have hT : TabOK Try.prog S_laws_toRelay_tab := (.cons S_laws_toRecoderS_ok .nil)
  have hp : Sh.sz s87 x0 ≤ 1048576 := hpre
  have hsz : Sh.sz s87 x0 = (0 + (Sh.sz s85 x0.2)) := rfl
  refine wp_seq ?_
  refine at_regq (T := S_laws_toRelay_tab) [{ ids := [1] }, { ids := [2] }] { ts := [1, 2], os := [1, 2] } [] gamOK hT h (by kernel_rfl) trivial ?_
  intro a w h
  refine then_normal ?_
  refine wp_seq ?_
  refine at_regq (T := S_laws_toRelay_tab) [{ ids := [3] }] { ts := [1, 2, 3], os := [1, 2, 3] } [] gamOK hT h (by kernel_rfl) trivial ?_
  intro a w h
  refine then_normal ?_
  refine wp_seq ?_
  refine at_regq (T := S_laws_toRelay_tab) [] { ts := [1, 2, 3], os := [1, 2, 3] } [] gamOK hT h (by kernel_rfl) trivial ?_
  intro a w h
  refine then_normal ?_
  refine wp_seq ?_
  refine at_reg (T := S_laws_toRelay_tab) [{}, {}, { ids := [4] }] { ts := [2, 3], os := [2, 3, 4] } ⟨[(2, aP 2 0), (3, aP 3 0)], [(2, oX 92 [cI 0, cN]), (3, oX 92 [cI x0.1, .sl 4]), (4, oR s148 x0.2)]⟩ [(pTo s85) x0.2] gamOK hT h (by kernel_rfl) ⟨(by (show Sh.sz _ _ ≤ 1048576; omega)), trivial⟩ ?_
  intro a w h
  refine then_normal ?_
  refine wp_seq ?_
  refine at_regq (T := S_laws_toRelay_tab) [] { ts := [2], os := [2, 4] } [] gamOK hT h (by kernel_rfl) trivial ?_
  intro a w h
  refine then_normal ?_
  refine wp_ret ?_
  exact at_return (S := S_laws_toRelay) (x := (x0, ())) (x0, ()) [] h (by kernel_rfl) trivial (congrArg (fun z => (z, ())) (show (x0) = (idD s87) x0 from by rfl))


def addP (xs : List T114) (p : T114) : List T114 := if xs.length < 40 ∧ (xs.any fun e => Sh.eqB s114 p e) = false then xs ++ [p] else xs
def mergeP (a b : List T114) : List T114 := b.foldl addP a
theorem addP_yes {xs : List T114} {p : T114} (h : xs.length < 40) (h' : (xs.any fun e => Sh.eqB s114 p e) = false) : addP xs p = xs ++ [p] := if_pos ⟨h, h'⟩
theorem addP_has {xs : List T114} {p : T114} (h' : (xs.any fun e => Sh.eqB s114 p e) = true) : addP xs p = xs := if_neg (by rw [h']; simp)
theorem addP_full {xs : List T114} {p : T114} (h : ¬ xs.length < 40) : addP xs p = xs := if_neg (fun e => h e.1)
theorem foldPx_full {xs : List T114} (h : ¬ xs.length < 40) : ∀ ys : List T114, ys.foldl addP xs = xs
  | [] => rfl
  | y :: ys => by rw [List.foldl_cons, addP_full h]; exact foldPx_full h ys
theorem addP_len (xs : List T114) (p : T114) : (addP xs p).length ≤ xs.length + 1 := by unfold addP; split <;> simp
theorem foldPx_len : ∀ (ys xs : List T114), (ys.foldl addP xs).length ≤ xs.length + ys.length
  | [], xs => by simp
  | y :: ys, xs => by have := foldPx_len ys (addP xs y); have := addP_len xs y; simp only [List.foldl_cons, List.length_cons]; omega
theorem foldP_len (xs ys : List T114) (k : Nat) : (foldTo addP xs ys k).length ≤ xs.length + ys.length := by
  have h1 := foldPx_len (ys.take k) xs
  have h2 : (ys.take k).length ≤ ys.length := by simp; omega
  unfold foldTo; omega
theorem foldP_full {xs ys : List T114} {i : Nat} (h : ¬ (foldTo addP xs ys i).length < 40) : mergeP xs ys = foldTo addP xs ys i := by
  unfold mergeP
  have : ys.foldl addP xs = (ys.drop i).foldl addP (foldTo addP xs ys i) := by unfold foldTo; rw [← List.foldl_append, List.take_append_drop]
  rw [this, foldPx_full h]


section
variable {α β : Type}
theorem ctL_filter (c : α → Nat) (p : α → Bool) : ∀ xs : List α, ctL c (xs.filter p) ≤ ctL c xs
  | [] => Nat.le_refl _
  | x :: l => by
    have := ctL_filter c p l
    rw [List.filter_cons]
    split <;> simp only [ctL] <;> omega
theorem eqF_eqL {e : α → α → Bool} : ∀ {xs ys : List α}, eqF e xs ys = eqL e xs ys
  | [], [] => rfl
  | [], _ :: _ => rfl
  | _ :: _, [] => rfl
  | _ :: l, _ :: l' => by simp only [eqF, eqL, eqF_eqL (xs := l)]
/-- the indices of those that are wanted -/
def idxsTo (p : α → Bool) (z : α) (xs : List α) : Nat → List Int
  | 0 => []
  | i + 1 => bif p (xs.getD i z) then idxsTo p z xs i ++ [(i : Int)] else idxsTo p z xs i
theorem idxsTo_len {p : α → Bool} {z : α} {xs : List α} : ∀ {i : Nat}, (idxsTo p z xs i).length ≤ i
  | 0 => Nat.le_refl _
  | i + 1 => by
    have := idxsTo_len (p := p) (z := z) (xs := xs) (i := i)
    simp only [idxsTo]
    cases p (xs.getD i z) <;> simp <;> omega
theorem idxsTo_mem {p : α → Bool} {z : α} {xs : List α} {j : Nat} : ∀ {i : Nat}, ((j : Int) ∈ idxsTo p z xs i) ↔ (j < i ∧ p (xs.getD j z) = true)
  | 0 => by simp [idxsTo]
  | i + 1 => by
    have ih := idxsTo_mem (p := p) (z := z) (xs := xs) (j := j) (i := i)
    simp only [idxsTo]
    cases hp : p (xs.getD i z) with
    | true =>
      rw [cond_true, List.mem_append, ih, List.mem_singleton]
      constructor
      · rintro (h | h)
        · exact ⟨by omega, h.2⟩
        · have : j = i := by omega
          subst this; exact ⟨by omega, hp⟩
      · rintro ⟨h1, h2⟩
        by_cases e : j = i
        · right; rw [e]
        · left; exact ⟨by omega, h2⟩
    | false =>
      rw [cond_false, ih]
      constructor
      · rintro ⟨h1, h2⟩; exact ⟨by omega, h2⟩
      · rintro ⟨h1, h2⟩
        refine ⟨?_, h2⟩
        by_cases e : j = i
        · subst e; rw [hp] at h2; cases h2
        · omega
/-- those whose index is not among ed -/
def remTo (z : α) (xs : List α) (ed : List Int) : Nat → List α
  | 0 => []
  | i + 1 => bif ed.any (fun e => decide ((i : Int) = e)) then remTo z xs ed i else remTo z xs ed i ++ [xs.getD i z]
theorem remTo_len {z : α} {xs : List α} {ed : List Int} : ∀ {i : Nat}, (remTo z xs ed i).length ≤ i
  | 0 => Nat.le_refl _
  | i + 1 => by
    have := remTo_len (z := z) (xs := xs) (ed := ed) (i := i)
    simp only [remTo]
    cases ed.any (fun e => decide ((i : Int) = e)) <;> simp <;> omega
theorem remTo_idxs {p : α → Bool} {z : α} {xs : List α} : ∀ {i n : Nat}, i ≤ n → n ≤ xs.length → remTo z xs (idxsTo p z xs n) i = (xs.take i).filter (fun e => !p e)
  | 0, _, _, _ => by simp [remTo]
  | i + 1, n, h, hn => by
    have ih := remTo_idxs (p := p) (z := z) (xs := xs) (i := i) (n := n) (by omega) hn
    have hm : (idxsTo p z xs n).any (fun e => decide ((i : Int) = e)) = p (xs.getD i z) := by
      rw [Bool.eq_iff_iff, List.any_eq_true]
      constructor
      · rintro ⟨x, hx, he⟩
        have he := of_decide_eq_true he
        rw [← he] at hx
        exact (idxsTo_mem.1 hx).2
      · intro hp
        exact ⟨(i : Int), idxsTo_mem.2 ⟨by omega, hp⟩, by simp⟩
    simp only [remTo, hm, ih]
    cases hp : p (xs.getD i z) with
    | true => rw [cond_true, filter_snoc_f (z := z) (by omega) (by simp only [hp]; rfl)]
    | false => rw [cond_false, filter_snoc_t (z := z) (by omega) (by simp only [hp]; rfl)]
end

def S__impl_CodedPacket_clone : Sum := { fid := 93, dom := [s38], cod := [s38], dp := true, fz := false, pre := fun x => (fun (x : T38) => x.2.1.length ≤ 1073741824 ∧ x.2.2.length ≤ 1073741824) x.1, g := fun x => (((idD s38) x.1), ()) }
def S__impl_CodedPacket_clone_tab : List (Nat × Sum) := [(138, S_slices_Clone_S_int_int_)]
theorem S__impl_CodedPacket_clone_ok : FnOK Try.prog 93 S__impl_CodedPacket_clone := by
  refine at_enter 12 (fun x => ⟨[(0, aG [cI x.1.1, .ro (.int 3) x.1.2.1, .ro (.int 3) x.1.2.2])], []⟩) Try.func93 rfl (by kernel_rfl) (fun x => rfl) ?_
  rintro w0 Z0 ⟨x0, u⟩ a w
  revert x0
  intro (x0 : T38) hpre hlens h
  replace h : At w0 Z0 [] 12 ⟨[(0, aG [cI x0.1, .ro (.int 3) x0.2.1, .ro (.int 3) x0.2.2])], []⟩ a w := h
  replace hpre : (fun (x : T38) => x.2.1.length ≤ 1073741824 ∧ x.2.2.length ≤ 1073741824) x0 := hpre
  have hl1 : List.length x0.2.1 ≤ 9223372036854775807 := hlens.1.2.1.1
  have hl2 : List.length x0.2.2 ≤ 9223372036854775807 := hlens.1.2.2.1
  have hT : TabOK Try.prog S__impl_CodedPacket_clone_tab := (.cons S_slices_Clone_S_int_int__ok .nil)
  have hp : List.length x0.2.1 ≤ 1073741824 ∧ List.length x0.2.2 ≤ 1073741824 := hpre
  refine wp_seq ?_
  refine at_regq (T := S__impl_CodedPacket_clone_tab) [{ ids := [1] }, { ids := [2] }] { ts := [1, 2], os := [1, 2] } [] gamOK hT h (by kernel_rfl) trivial ?_
  intro a w h
  refine then_normal ?_
  refine wp_seq ?_
  refine at_anyq (T := S__impl_CodedPacket_clone_tab) [{}, {}, {}, {}, { ids := [3] }, {}, {}, { ids := [4] }, {}, {}] { ts := [2], os := [2, 3, 4] } [(lenOK (α := Int)) x0.2.1, (lenOK (α := Int)) x0.2.2] gamOK hT mixed h (by kernel_rfl) ⟨(by (show _ ≤ _; omega)), (by (show _ ≤ _; omega)), trivial⟩ ?_
  intro a w h
  refine then_normal ?_
  refine wp_ret ?_
  exact at_return (S := S__impl_CodedPacket_clone) (x := (x0, ())) (x0, ()) [] h (by kernel_rfl) trivial (congrArg (fun z => (z, ())) (show (x0) = (idD s38) x0 from by rfl))

def S_spec_l11Copy : Sum := { fid := 89, dom := [s38], cod := [s38], dp := true, fz := false, pre := fun x => (fun (x : T38) => x.2.1.length ≤ 1073741824 ∧ x.2.2.length ≤ 1073741824) x.1, g := fun x => (((idD s38) x.1), ()) }
def S_spec_l11Copy_tab : List (Nat × Sum) := []
theorem S_spec_l11Copy_ok : FnOK Try.prog 89 S_spec_l11Copy := by
  refine at_enter 14 (fun x => ⟨[(0, aG [cI x.1.1, .ro (.int 3) x.1.2.1, .ro (.int 3) x.1.2.2])], []⟩) Try.func89 rfl (by kernel_rfl) (fun x => rfl) ?_
  rintro w0 Z0 ⟨x0, u⟩ a w
  revert x0
  intro (x0 : T38) hpre hlens h
  replace h : At w0 Z0 [] 14 ⟨[(0, aG [cI x0.1, .ro (.int 3) x0.2.1, .ro (.int 3) x0.2.2])], []⟩ a w := h
  replace hpre : (fun (x : T38) => x.2.1.length ≤ 1073741824 ∧ x.2.2.length ≤ 1073741824) x0 := hpre
  have hl1 : List.length x0.2.1 ≤ 9223372036854775807 := hlens.1.2.1.1
  have hl2 : List.length x0.2.2 ≤ 9223372036854775807 := hlens.1.2.2.1
  have hT : TabOK Try.prog S_spec_l11Copy_tab := .nil
  have hp : List.length x0.2.1 ≤ 1073741824 ∧ List.length x0.2.2 ≤ 1073741824 := hpre
  refine wp_seq ?_
  refine at_regq (T := S_spec_l11Copy_tab) [{ ids := [1] }, { ids := [2] }] { ts := [1, 2], os := [1, 2] } [] gamOK hT h (by kernel_rfl) trivial ?_
  intro a w h
  refine then_normal ?_
  refine wp_seq ?_
  refine at_anyq (T := S_spec_l11Copy_tab) [{}, {}, { ids := [3] }, {}, {}, { ids := [4] }, { ids := [5] }, {}, {}, { ids := [6] }, {}, {}] { ts := [2], os := [2, 4, 6] } [(List.length ([] : List Int) + List.length x0.2.1) * 8 ≤ 140737488355328, (List.length ([] : List Int) + List.length x0.2.2) * 8 ≤ 140737488355328] gamOK hT mixed h (by kernel_rfl) ⟨(by first | omega | (simp only [List.length_append, List.length_cons, List.length_nil, List.length_set, List.length_take, List.length_drop, List.length_replicate, List.length_map, Nat.min_def]; omega) | (simp; done) | (simp; omega) | done), (by first | omega | (simp only [List.length_append, List.length_cons, List.length_nil, List.length_set, List.length_take, List.length_drop, List.length_replicate, List.length_map, Nat.min_def]; omega) | (simp; done) | (simp; omega) | done), trivial⟩ ?_
  intro a w h
  refine then_normal ?_
  refine wp_ret ?_
  exact at_return (S := S_spec_l11Copy) (x := (x0, ())) ((x0.1, ((([] : List Int) ++ x0.2.1), (([] : List Int) ++ x0.2.2))), ()) [] h (by kernel_rfl) trivial (congrArg (fun z => (z, ())) (show ((x0.1, ((([] : List Int) ++ x0.2.1), (([] : List Int) ++ x0.2.2)))) = (idD s38) x0 from by rfl))

def S_spec_l11All : Sum := { fid := 182, dom := [s146], cod := [s146], dp := true, fz := false, pre := fun x => (fun (x : List T38) => Sh.sz s146 x ≤ 1073741824) x.1, g := fun x => (((idD s146) x.1), ()) }
def S_spec_l11All_tab : List (Nat × Sum) := [(89, S_spec_l11Copy)]
theorem S_spec_l11All_ok : FnOK Try.prog 182 S_spec_l11All := by
  refine at_enter 21 (fun x => ⟨[(0, aF s38 x.1)], []⟩) Try.func182 rfl (by kernel_rfl) (fun x => rfl) ?_
  rintro w0 Z0 ⟨x0, u⟩ a w
  revert x0
  intro (x0 : (List T38)) hpre hlens h
  replace h : At w0 Z0 [] 21 ⟨[(0, aF s38 x0)], []⟩ a w := h
  replace hpre : (fun (x : List T38) => Sh.sz s146 x ≤ 1073741824) x0 := hpre
  have hl1 : List.length x0 ≤ 9223372036854775807 := hlens.1.1
  have hT : TabOK Try.prog S_spec_l11All_tab := (.cons S_spec_l11Copy_ok .nil)
  have hp : Sh.sz s146 x0 ≤ 1073741824 := hpre
  have hsz : Sh.sz s146 x0 = List.length x0 + ctL (Sh.sz s38) x0 := rfl
  refine wp_seq ?_
  refine at_regq (T := S_spec_l11All_tab) [] { ts := [0, 2], os := [] } [] gamOK hT h (by kernel_rfl) trivial ?_
  intro a w h
  refine then_normal ?_
  refine wp_seq ?_
  refine at_regq (T := S_spec_l11All_tab) [{ ids := [1] }] { ts := [0, 2, 3], os := [1] } [] gamOK hT h (by kernel_rfl) trivial ?_
  intro a w h
  refine then_normal ?_
  refine wp_seq ?_
  refine wp_seq ?_
  refine at_regq (T := S_spec_l11All_tab) [] { ts := [0, 2, 3, 4], os := [1] } [] gamOK hT h (by kernel_rfl) trivial ?_
  intro a w h
  refine then_normal ?_
  refine wp_block ?_
  replace h := at_out (σ' := ⟨[(0, aF s38 x0), (2, .p (.c (cN))), (3, aS 1), (4, aI 0)], [(1, oR s38 ([] : List T38))]⟩) { ts := [0, 2, 3, 4], os := [1] } h (by kernel_rfl)
  refine at_loop (fun i : Nat => (⟨[(0, aF s38 x0), (2, .p (.c (cN))), (3, aS 1), (4, aI ((i : Nat) : Int))], [(1, oR s38 (List.take i x0))]⟩ : St)) (fun i => i ≤ List.length x0) (fun i => List.length x0 - i) (0) h (st_congr2 (fun (d0 : List T38) (d1 : Int) => (⟨[(0, aF s38 x0), (2, .p (.c (cN))), (3, aS 1), (4, aI d1)], [(1, oR s38 d0)]⟩ : St)) (show (([] : List T38) : List T38) = (List.take (0) x0) from by first | rfl | (rfl)) (show (0 : Int) = (((0) : Nat) : Int) from by first | rfl | (rfl))) (by first | omega | simp | (refine ⟨?_, ?_⟩ <;> first | omega | simp)) ?_
  intro i a w hok0 h
  have hlt := len_take_le (xs := x0) i
  refine wp_seq ?_
  refine wp_seq ?_
  refine at_reg (T := S_spec_l11All_tab) [] { ts := [0, 2, 3, 4, 9], os := [1] } ⟨[(0, aF s38 x0), (2, .p (.c (cN))), (3, aS 1), (4, aI ((i : Nat) : Int)), (9, aB (decide (((i : Nat) : Int) < ((List.length x0 : Nat) : Int))))], [(1, oR s38 (List.take i x0))]⟩ [] gamOK hT h (by kernel_rfl) trivial ?_
  intro a w h
  refine then_normal ?_
  refine at_test (decide (((i : Nat) : Int) < ((List.length x0 : Nat) : Int))) h (by kernel_rfl) (fun h1 => ?_) (fun h1 => ?_)
  · replace h1 : ((i : Nat) : Int) < ((List.length x0 : Nat) : Int) := of_decide_eq_true h1
    have hat := ctL_at_le (c := Sh.sz s38) (xs := x0) (z := (0, ([], []))) (i := i) (by omega)
    have hse : Sh.sz s38 (x0.getD i (0, ([], []))) = (0 + (Sh.sz s34 (x0.getD i (0, ([], []))).2.1 + Sh.sz s34 (x0.getD i (0, ([], []))).2.2)) := rfl
    have hs1 : Sh.sz s34 (x0.getD i (0, ([], []))).2.1 = List.length (x0.getD i (0, ([], []))).2.1 := sz_flat (by rfl) _
    have hs2 : Sh.sz s34 (x0.getD i (0, ([], []))).2.2 = List.length (x0.getD i (0, ([], []))).2.2 := sz_flat (by rfl) _
    refine wp_skip ?_
    refine then_normal ?_
    refine wp_seq ?_
    refine wp_block ?_
    refine at_regq (T := S_spec_l11All_tab) [{}, {}, {}, {}, {}, { ids := [2, 3] }, { ids := [4] }, { ids := [5] }] { ts := [0, 2, 3, 4], os := [5] } [(0 : Int) ≤ ((i : Nat) : Int) ∧ ((i : Nat) : Int) < ((List.length x0 : Nat) : Int), (fun (x : T38) => x.2.1.length ≤ 1073741824 ∧ x.2.2.length ≤ 1073741824) (x0.getD i (0, ([], []))), (List.length (List.take i x0) + List.length ([(x0.getD i (0, ([], [])))])) * 56 ≤ 140737488355328] gamOK hT h (by kernel_rfl) ⟨(by refine ⟨?_, ?_⟩ <;> (first | omega | (simp only [List.length_append, List.length_cons, List.length_nil, List.length_set, List.length_take, List.length_drop, List.length_replicate, List.length_map, Nat.min_def]; omega) | (simp; done) | (simp; omega) | done)), (by (show _ ∧ _; constructor <;> (show _ ≤ _; omega))), (by first | omega | (simp only [List.length_append, List.length_cons, List.length_nil, List.length_set, List.length_take, List.length_drop, List.length_replicate, List.length_map, Nat.min_def]; omega) | (simp; done) | (simp; omega) | done), trivial⟩ ?_
    intro a w h
    refine in_normal ?_
    refine then_normal ?_
    refine at_regq (T := S_spec_l11All_tab) [{}, { nw := true }] { ts := [0, 2, 3, 4], os := [5] } [I64 (((i : Nat) : Int) + 1)] gamOK hT h (by kernel_rfl) ⟨⟨by first | omega | (simp only [List.length_append, List.length_cons, List.length_nil, List.length_set, List.length_take, List.length_drop, List.length_replicate, List.length_map, Nat.min_def]; omega) | (simp; done) | (simp; omega) | done, by first | omega | (simp only [List.length_append, List.length_cons, List.length_nil, List.length_set, List.length_take, List.length_drop, List.length_replicate, List.length_map, Nat.min_def]; omega) | (simp; done) | (simp; omega) | done⟩, trivial⟩ ?_
    intro a w h
    replace h := at_out (σ' := ⟨[(0, aF s38 x0), (2, .p (.c (cN))), (3, aS 1), (4, aI (((i : Nat) : Int) + 1))], [(1, oR s38 ((List.take i x0) ++ ([(x0.getD i (0, ([], [])))])))]⟩) { ts := [0, 2, 3, 4], os := [5], rn := [(5, 1)] } h (by kernel_rfl)
    exact ⟨i + 1, at_eq h (st_congr2 (fun (d0 : List T38) (d1 : Int) => (⟨[(0, aF s38 x0), (2, .p (.c (cN))), (3, aS 1), (4, aI d1)], [(1, oR s38 d0)]⟩ : St)) (show (((List.take i x0) ++ ([(x0.getD i (0, ([], [])))])) : List T38) = (List.take (i + 1) x0) from by first | rfl | (rw [take_snoc (z := (0, ([], []))) (by omega)])) (show (((i : Nat) : Int) + 1 : Int) = (((i + 1) : Nat) : Int) from by first | rfl | (omega))), (by first | omega | (refine ⟨?_, ?_⟩ <;> omega)), (by omega)⟩
  · replace h1 : ¬ (((i : Nat) : Int) < ((List.length x0 : Nat) : Int)) := of_decide_eq_false h1
    refine wp_exit ?_
    refine then_exit ?_
    refine then_exit ?_
    refine in_hit ?_
    refine then_normal ?_
    refine wp_seq ?_
    refine at_regq (T := S_spec_l11All_tab) [] { ts := [2], os := [1] } [] gamOK hT h (by kernel_rfl) trivial ?_
    intro a w h
    refine then_normal ?_
    refine wp_ret ?_
    exact at_return (S := S_spec_l11All) (x := (x0, ())) ((List.take i x0), ()) [] h (by kernel_rfl) trivial (congrArg (fun z => (z, ())) (show ((List.take i x0)) = (idD s146) x0 from by (rw [take_all (by omega)]; rfl)))

end Go.Proofs.Ytfbogeakgmickaa

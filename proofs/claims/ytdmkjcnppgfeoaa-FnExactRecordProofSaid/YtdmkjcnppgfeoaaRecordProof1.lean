/- The walks of the functions that the law reaches: each summary holds. No condition. -/
import Derived.Test.YtdmkjcnppgfeoaaPZ
import Derived.Test.YtdmkjcnppgfeoaaLA
import Derived.Test.YtdmkjcnppgfeoaaProg
namespace Go.Proofs.Ytdmkjcnppgfeoaa
open Go.RowKit
set_option linter.unusedVariables false
set_option linter.unusedSimpArgs false
abbrev s159 : Sh := .st 159 (.pair (.int 3) (.pair (.int 3) (.int 3)))
abbrev T159 : Type := (Int × (Int × Int))
abbrev s51 : Sh := .sl 51 s159
abbrev s22 : Sh := .sl 22 (.int 3)
abbrev s97 : Sh := .sl 97 s22
abbrev s61 : Sh := .st 61 (.pair (.int 3) (.pair s22 s22))
abbrev T61 : Type := (Int × ((List Int) × (List Int)))
abbrev s218 : Sh := .st 218 (.pair (.int 3) s97)
abbrev T218 : Type := (Int × (List (List Int)))
abbrev s57 : Sh := .st 57 s22
abbrev s53 : Sh := .st 53 s51
abbrev s63 : Sh := .st 63 (.pair (.int 3) (.pair (.int 3) (.pair (.int 3) (.pair s61 (.int 3)))))
abbrev T63 : Type := (Int × (Int × (Int × (T61 × Int))))
abbrev s59 : Sh := .st 59 (.pair (.int 3) (.pair (.int 3) (.pair (.int 3) (.pair (.int 3) (.pair s22 (.int 3))))))
abbrev T59 : Type := (Int × (Int × (Int × (Int × ((List Int) × Int)))))
abbrev s44 : Sh := .st 44 (.pair (.int 3) (.pair s22 s22))
abbrev T44 : Type := (Int × ((List Int) × (List Int)))
abbrev s40 : Sh := .st 40 s22
abbrev s237 : Sh := .st 237 (.pair (.int 3) (.pair (.int 3) (.int 3)))
abbrev T237 : Type := (Int × (Int × Int))
abbrev s36 : Sh := .sl 36 s237
abbrev s38 : Sh := .st 38 s36
abbrev s46 : Sh := .st 46 (.pair (.int 3) (.pair (.int 3) (.pair (.int 3) (.pair s44 (.int 3)))))
abbrev T46 : Type := (Int × (Int × (Int × (T44 × Int))))
abbrev s42 : Sh := .st 42 (.pair (.int 3) (.pair (.int 3) (.pair (.int 3) (.pair (.int 3) (.pair s22 (.int 3))))))
abbrev T42 : Type := (Int × (Int × (Int × (Int × ((List Int) × Int)))))
def gam : Gam := [(51, s159, 24), (22, (.int 3), 8), (97, s22, 24), (126, s61, 56), (30, s218, 32)]
theorem gamOK : GamOK Try.prog gam := (.cons (Elem.of (.agg #[(.int .i64 0), (.int .i64 0), (.int .i64 0)]) Try.underlying51 (by kernel_rfl) rfl (by decide) (by decide)) (.cons (Elem.of (.int .i64 0) Try.underlying22 (by kernel_rfl) rfl (by decide) (by decide)) (.cons (Elem.of (.slice none 0 0) Try.underlying97 (by kernel_rfl) rfl (by decide) (by decide)) (.cons (Elem.of (.agg #[(.int .i64 0), (.slice none 0 0), (.slice none 0 0)]) Try.underlying126 (by kernel_rfl) rfl (by decide) (by decide)) (.cons (Elem.of (.agg #[(.int .i64 0), (.slice none 0 0)]) Try.underlying30 (by kernel_rfl) rfl (by decide) (by decide)) .nil)))))
theorem mixed : Try.prog.follows .mixedOrders = true := by kernel_rfl
def inR (n lo hi : Int) : Bool := decide (lo ≤ n ∧ n ≤ hi)
theorem inR_t {n a b : Int} (h : inR n a b = true) : a ≤ n ∧ n ≤ b := of_decide_eq_true h
theorem inR_f {n a b : Int} (h : inR n a b = false) : n < a ∨ b < n := by have := of_decide_eq_false h; omega
theorem inR_true {n a b : Int} (h : a ≤ n ∧ n ≤ b) : inR n a b = true := decide_eq_true h
def lenOK {α : Type} (xs : List α) : Prop := xs.length ≤ 1073741824
def idL {α : Type} (xs : List α) : List α := xs
section
variable {α β : Type}
/-- none of the first i -/
def noneTo (p : α → Bool) (xs : List α) (z : α) (i : Nat) : Prop := ∀ j, j < i → p (xs.getD j z) = false
def idxF (p : α → Bool) : List α → Int
  | [] => -1
  | x :: l => if p x = true then 0 else if idxF p l < 0 then -1 else idxF p l + 1
theorem noneTo_zero {p : α → Bool} {xs : List α} {z : α} : noneTo p xs z 0 := fun j h => by omega
theorem noneTo_succ {p : α → Bool} {xs : List α} {z : α} {i : Nat} (h : noneTo p xs z i) (k : p (xs.getD i z) = false) : noneTo p xs z (i + 1) := fun j hj => by
  by_cases e : j = i
  · subst e; exact k
  · exact h j (by omega)
theorem idxF_at {p : α → Bool} {z : α} : ∀ {xs : List α} {i : Nat}, i < xs.length → noneTo p xs z i → p (xs.getD i z) = true → idxF p xs = i
  | [], _, h, _, _ => by simp at h
  | x :: l, 0, _, _, k => by
    have k : p x = true := k
    simp [idxF, k]
  | x :: l, i + 1, h, hn, k => by
    have h0 : p x = false := hn 0 (by omega)
    have := idxF_at (xs := l) (i := i) (by simpa using h) (fun j hj => by have := hn (j + 1) (by omega); simpa using this) (by simpa using k)
    simp only [idxF, h0, this]
    rw [if_neg (by decide), if_neg (by omega)]
    omega
theorem idxF_none {p : α → Bool} {z : α} : ∀ {xs : List α} {i : Nat}, xs.length ≤ i → noneTo p xs z i → idxF p xs = -1
  | [], _, _, _ => rfl
  | x :: l, 0, h, _ => by simp at h
  | x :: l, i + 1, h, hn => by
    have h0 : p x = false := hn 0 (by omega)
    have := idxF_none (xs := l) (i := i) (by simpa using h) (fun j hj => by have := hn (j + 1) (by omega); simpa using this)
    simp [idxF, h0, this]
theorem idxF_pos {p : α → Bool} : ∀ {xs : List α}, 0 ≤ idxF p xs ↔ xs.any p = true
  | [] => by simp [idxF]
  | x :: l => by
    have := idxF_pos (xs := l) (p := p)
    simp only [idxF, List.any_cons, Bool.or_eq_true, ← this]
    by_cases hx : p x = true
    · simp [hx]
    · rw [if_neg hx]
      split
      · rename_i h; constructor
        · intro h'; omega
        · rintro (h' | h')
          · exact absurd h' hx
          · omega
      · rename_i h; constructor
        · intro h'; right; omega
        · intro _; omega
theorem idxF_any {p : α → Bool} {xs : List α} : decide (idxF p xs ≥ 0) = xs.any p := by
  rw [Bool.eq_iff_iff, decide_eq_true_iff]; exact idxF_pos
/-- the first i alike -/
def allTo2 (e : α → β → Bool) (xs : List α) (ys : List β) (z : α) (y : β) (i : Nat) : Prop := ∀ j, j < i → e (xs.getD j z) (ys.getD j y) = true
def eqF (e : α → β → Bool) : List α → List β → Bool
  | [], [] => true
  | x :: l, y :: l' => e x y && eqF e l l'
  | _, _ => false
theorem allTo2_zero {e : α → β → Bool} {xs : List α} {ys : List β} {z : α} {y : β} : allTo2 e xs ys z y 0 := fun j h => by omega
theorem allTo2_succ {e : α → β → Bool} {xs : List α} {ys : List β} {z : α} {y : β} {i : Nat} (h : allTo2 e xs ys z y i) (k : e (xs.getD i z) (ys.getD i y) = true) : allTo2 e xs ys z y (i + 1) := fun j hj => by
  by_cases e : j = i
  · subst e; exact k
  · exact h j (by omega)
theorem eqF_len {e : α → β → Bool} : ∀ {xs : List α} {ys : List β}, xs.length ≠ ys.length → eqF e xs ys = false
  | [], [], h => absurd rfl h
  | [], _ :: _, _ => rfl
  | _ :: _, [], _ => rfl
  | _ :: l, _ :: l', h => by simp only [eqF]; rw [eqF_len (xs := l) (ys := l') (by simpa using h), Bool.and_false]
theorem eqF_at {e : α → β → Bool} {z : α} {y : β} : ∀ {xs : List α} {ys : List β} {i : Nat}, i < xs.length → i < ys.length → e (xs.getD i z) (ys.getD i y) = false → eqF e xs ys = false
  | x :: l, y' :: l', 0, _, _, h => by
    have h : e x y' = false := h
    simp [eqF, h]
  | x :: l, y' :: l', i + 1, h1, h2, h => by simp only [eqF]; rw [eqF_at (xs := l) (ys := l') (i := i) (by simpa using h1) (by simpa using h2) (by simpa using h), Bool.and_false]
  | [], _, _, h1, _, _ => by simp at h1
  | _ :: _, [], _, _, h2, _ => by simp at h2
theorem eqF_all {e : α → β → Bool} {z : α} {y : β} : ∀ {xs : List α} {ys : List β} {i : Nat}, xs.length = ys.length → xs.length ≤ i → allTo2 e xs ys z y i → eqF e xs ys = true
  | [], [], _, _, _, _ => rfl
  | [], _ :: _, _, h, _, _ => by simp at h
  | _ :: _, [], _, h, _, _ => by simp at h
  | x :: l, y' :: l', 0, _, h, _ => by simp at h
  | x :: l, y' :: l', i + 1, h, hi, ha => by
    have h0 : e x y' = true := ha 0 (by omega)
    simp only [eqF]
    rw [h0, eqF_all (xs := l) (ys := l') (i := i) (by simpa using h) (by simpa using hi) (fun j hj => by have := ha (j + 1) (by omega); simpa using this)]
    rfl
/-- all of the first i -/
def allTo1 (p : α → Bool) (xs : List α) (z : α) (i : Nat) : Prop := ∀ j, j < i → p (xs.getD j z) = true
theorem allTo1_zero {p : α → Bool} {xs : List α} {z : α} : allTo1 p xs z 0 := fun j h => by omega
theorem allTo1_succ {p : α → Bool} {xs : List α} {z : α} {i : Nat} (h : allTo1 p xs z i) (k : p (xs.getD i z) = true) : allTo1 p xs z (i + 1) := fun j hj => by
  by_cases e : j = i
  · subst e; exact k
  · exact h j (by omega)
theorem all_at {p : α → Bool} {xs : List α} {z : α} {i : Nat} (h : i < xs.length) (k : p (xs.getD i z) = false) : xs.all p = false := by
  rw [Bool.eq_false_iff]; intro ha
  have := List.all_eq_true.1 ha _ (getD_mem (z := z) h)
  rw [k] at this; cases this
theorem all_of {p : α → Bool} {xs : List α} {z : α} {i : Nat} (h : xs.length ≤ i) (k : allTo1 p xs z i) : xs.all p = true := by
  rw [List.all_eq_true]; intro x hx
  obtain ⟨j, hj, rfl⟩ := List.getElem_of_mem hx
  have := k j (by omega)
  rwa [getD_of_lt hj] at this
/-- folded so far -/
def foldTo (f : β → α → β) (b : β) (xs : List α) (i : Nat) : β := (xs.take i).foldl f b
theorem foldTo_zero {f : β → α → β} {b : β} {xs : List α} : foldTo f b xs 0 = b := rfl
theorem foldTo_succ {f : β → α → β} {b : β} {xs : List α} {i : Nat} (z : α) (h : i < xs.length) : foldTo f b xs (i + 1) = f (foldTo f b xs i) (xs.getD i z) := by
  unfold foldTo; rw [take_snoc (z := z) h, List.foldl_append]; rfl
theorem foldTo_all {f : β → α → β} {b : β} {xs : List α} {i : Nat} (h : xs.length ≤ i) : foldTo f b xs i = xs.foldl f b := by unfold foldTo; rw [take_all h]
end
theorem beqT {a b : Bool} (h : a = b) : (a == b) = true := by subst h; simp
section
variable {α β : Type}
theorem any_at {p : α → Bool} {xs : List α} {z : α} {i : Nat} (h : i < xs.length) (k : p (xs.getD i z) = true) : xs.any p = true := List.any_eq_true.2 ⟨_, getD_mem h, k⟩
theorem any_of {p : α → Bool} {xs : List α} {z : α} {i : Nat} (h : xs.length ≤ i) (k : noneTo p xs z i) : xs.any p = false := by
  rw [Bool.eq_false_iff]; intro ha
  obtain ⟨x, hx, hp⟩ := List.any_eq_true.1 ha
  obtain ⟨j, hj, rfl⟩ := List.getElem_of_mem hx
  have := k j (by omega)
  rw [getD_of_lt hj, hp] at this; cases this
/-- P holds of all below n -/
def allN (P : Nat → Bool) : Nat → Bool
  | 0 => true
  | n + 1 => allN P n && P n
theorem allN_succ {P : Nat → Bool} {i : Nat} (h : allN P i = true) (k : P i = true) : allN P (i + 1) = true := by simp [allN, h, k]
theorem allN_iff {P : Nat → Bool} : ∀ {n : Nat}, allN P n = true ↔ ∀ j, j < n → P j = true
  | 0 => by simp [allN]
  | n + 1 => by
    simp only [allN, Bool.and_eq_true, allN_iff (n := n)]
    constructor
    · rintro ⟨h1, h2⟩ j hj
      by_cases e : j = n
      · rw [e]; exact h2
      · exact h1 j (by omega)
    · intro h; exact ⟨fun j hj => h j (by omega), h n (by omega)⟩
theorem allN_eq {P : Nat → Bool} {i n : Nat} (h : n ≤ i) (h' : i ≤ n) (k : allN P i = true) : allN P n = true := by rw [show n = i by omega]; exact k
theorem allN_at {P : Nat → Bool} {i n : Nat} (h : i < n) (k : P i = false) : allN P n = false := by
  rw [Bool.eq_false_iff]; intro ha
  rw [allN_iff.1 ha i h] at k; cases k
theorem map_snoc {f : α → β} {xs : List α} {i : Nat} {z : α} (h : i < xs.length) : (xs.take (i + 1)).map f = (xs.take i).map f ++ [f (xs.getD i z)] := by rw [take_snoc (z := z) h, List.map_append]; rfl
theorem filter_snoc_t {p : α → Bool} {xs : List α} {i : Nat} {z : α} (h : i < xs.length) (k : p (xs.getD i z) = true) : (xs.take (i + 1)).filter p = (xs.take i).filter p ++ [xs.getD i z] := by rw [take_snoc (z := z) h, List.filter_append, List.filter_cons_of_pos k]; rfl
theorem filter_snoc_f {p : α → Bool} {xs : List α} {i : Nat} {z : α} (h : i < xs.length) (k : p (xs.getD i z) = false) : (xs.take (i + 1)).filter p = (xs.take i).filter p := by rw [take_snoc (z := z) h, List.filter_append, List.filter_cons_of_neg (by rw [k]; decide)]; simp
theorem len_filter_take {p : α → Bool} {xs : List α} (i : Nat) : ((xs.take i).filter p).length ≤ xs.length := Nat.le_trans (List.length_filter_le _ _) (by simp; omega)
theorem len_take_le {xs : List α} (i : Nat) : (xs.take i).length ≤ xs.length := by simp; omega
end
theorem any_not {α : Type} (p : α → Bool) (xs : List α) : (xs.any fun e => !p e) = !(xs.all p) := by
  induction xs with
  | nil => rfl
  | cons x l ih => rw [List.any_cons, List.all_cons, ih, Bool.not_and]
theorem allEq_comm : ∀ (a b : List Int), allEq a b = allEq b a
  | [], [] => rfl
  | [], _ :: _ => rfl
  | _ :: _, [] => rfl
  | a :: l, b :: l' => by simp only [allEq, allEq_comm l l']; rw [show decide (a = b) = decide (b = a) from by rw [decide_eq_decide]; exact eq_comm]

def S_slices_Clone_S_impl_Proof_impl_Proof_ : Sum := { fid := 193, dom := [s51], cod := [s51], dp := true, fz := false, pre := fun x => (lenOK (α := (Int × (Int × Int)))) x.1, g := fun x => (((idL (α := (Int × (Int × Int)))) x.1), ()) }
def S_slices_Clone_S_impl_Proof_impl_Proof__tab : List (Nat × Sum) := []
theorem S_slices_Clone_S_impl_Proof_impl_Proof__ok : FnOK Try.prog 193 S_slices_Clone_S_impl_Proof_impl_Proof_ := by
  refine at_enter 8 (fun x => ⟨[(0, aF s159 x.1)], []⟩) Try.func193 rfl (by kernel_rfl) (fun x => rfl) ?_
  rintro w0 Z0 ⟨x0, u⟩ a w
  revert x0
  intro (x0 : (List T159)) hpre hlens h
  replace h : At w0 Z0 [] 8 ⟨[(0, aF s159 x0)], []⟩ a w := h
  replace hpre : (lenOK (α := (Int × (Int × Int)))) x0 := hpre
  have hl1 : List.length x0 ≤ 9223372036854775807 := hlens.1.1
  have hT : TabOK Try.prog S_slices_Clone_S_impl_Proof_impl_Proof__tab := .nil
  have hp : List.length x0 ≤ 1073741824 := hpre
  refine wp_seq ?_
  refine at_regq (T := S_slices_Clone_S_impl_Proof_impl_Proof__tab) [] { ts := [0, 2], os := [] } [] gamOK hT h (by kernel_rfl) trivial ?_
  intro a w h
  refine then_normal ?_
  refine wp_seq ?_
  refine wp_seq ?_
  refine at_regq (T := S_slices_Clone_S_impl_Proof_impl_Proof__tab) [] { ts := [0, 2, 4], os := [] } [] gamOK hT h (by kernel_rfl) trivial ?_
  intro a w h
  refine then_normal ?_
  refine at_nil (List.length x0) h (by kernel_rfl) (fun h1 => ?_) ?_
  · skip
    refine wp_seq ?_
    refine at_regq (T := S_slices_Clone_S_impl_Proof_impl_Proof__tab) [] { ts := [0, 2], os := [] } [] gamOK hT h (by kernel_rfl) trivial ?_
    intro a w h
    refine then_normal ?_
    refine wp_ret ?_
    refine then_ret ?_
    exact at_return (S := S_slices_Clone_S_impl_Proof_impl_Proof_) (x := (x0, ())) (([] : List T159), ()) [] h (by kernel_rfl) trivial (congrArg (fun z => (z, ())) (show (([] : List T159)) = (idL (α := (Int × (Int × Int)))) x0 from by (show [] = x0; exact (List.eq_nil_of_length_eq_zero h1).symm)))
  · skip
    refine wp_skip ?_
    refine then_normal ?_
    refine wp_seq ?_
    refine at_regq (T := S_slices_Clone_S_impl_Proof_impl_Proof__tab) [{ ids := [1] }, {}, { ids := [2] }] { ts := [2], os := [2] } [(List.length ([] : List T159) + List.length x0) * 24 ≤ 140737488355328] gamOK hT h (by kernel_rfl) ⟨(by first | omega | (simp only [List.length_append, List.length_cons, List.length_nil, List.length_set, List.length_take, List.length_drop, List.length_replicate, List.length_map, Nat.min_def]; omega) | (simp; done) | (simp; omega) | done), trivial⟩ ?_
    intro a w h
    refine then_normal ?_
    refine wp_ret ?_
    exact at_return (S := S_slices_Clone_S_impl_Proof_impl_Proof_) (x := (x0, ())) ((([] : List T159) ++ x0), ()) [] h (by kernel_rfl) trivial (congrArg (fun z => (z, ())) (show ((([] : List T159) ++ x0)) = (idL (α := (Int × (Int × Int)))) x0 from by (show [] ++ x0 = x0; rfl)))

def D_slices_Index_S_impl_Proof_impl_Proof_ := (fun (xs : List (Int × (Int × Int))) (v : (Int × (Int × Int))) => idxF (fun e => Sh.eqB s159 v e) xs)
def S_slices_Index_S_impl_Proof_impl_Proof_ : Sum := { fid := 272, dom := [s51, s159], cod := [(.int 3)], dp := true, fz := false, pre := fun x => True, g := fun x => ((D_slices_Index_S_impl_Proof_impl_Proof_ x.1 x.2.1), ()) }
def S_slices_Index_S_impl_Proof_impl_Proof__tab : List (Nat × Sum) := []
theorem S_slices_Index_S_impl_Proof_impl_Proof__ok : FnOK Try.prog 272 S_slices_Index_S_impl_Proof_impl_Proof_ := by
  refine at_enter 19 (fun x => ⟨[(0, aF s159 x.1), (1, aG [cI x.2.1.1, cI x.2.1.2.1, cI x.2.1.2.2])], []⟩) Try.func272 rfl (by kernel_rfl) (fun x => rfl) ?_
  rintro w0 Z0 ⟨x0, x1, u⟩ a w
  revert x0 x1
  intro (x0 : (List T159)) (x1 : T159) hpre hlens h
  replace h : At w0 Z0 [] 19 ⟨[(0, aF s159 x0), (1, aG [cI x1.1, cI x1.2.1, cI x1.2.2])], []⟩ a w := h
  have hl1 : List.length x0 ≤ 9223372036854775807 := hlens.1.1
  have hT : TabOK Try.prog S_slices_Index_S_impl_Proof_impl_Proof__tab := .nil
  refine wp_seq ?_
  refine at_regq (T := S_slices_Index_S_impl_Proof_impl_Proof__tab) [{ ids := [1] }] { ts := [0, 3, 4], os := [1] } [] gamOK hT h (by kernel_rfl) trivial ?_
  intro a w h
  refine then_normal ?_
  refine wp_seq ?_
  refine wp_seq ?_
  refine at_regq (T := S_slices_Index_S_impl_Proof_impl_Proof__tab) [] { ts := [0, 3, 4, 7, 8], os := [1] } [] gamOK hT h (by kernel_rfl) trivial ?_
  intro a w h
  refine then_normal ?_
  refine wp_block ?_
  replace h := at_out (σ' := ⟨[(0, aF s159 x0), (3, aP 1 0), (4, aI 0), (7, aI ((List.length x0 : Nat) : Int)), (8, aI 0)], [(1, oX 159 [cI x1.1, cI x1.2.1, cI x1.2.2])]⟩) { ts := [0, 3, 4, 7, 8], os := [1] } h (by kernel_rfl)
  refine at_loop (fun i : Nat => (⟨[(0, aF s159 x0), (3, aP 1 0), (4, aI 0), (7, aI ((List.length x0 : Nat) : Int)), (8, aI ((i : Nat) : Int))], [(1, oX 159 [cI x1.1, cI x1.2.1, cI x1.2.2])]⟩ : St)) (fun i => (i ≤ List.length x0 ∧ noneTo (fun e => Sh.eqB s159 x1 e) x0 (0, (0, 0)) i)) (fun i => List.length x0 - i) (0) h (st_congr1 (fun (d0 : Int) => (⟨[(0, aF s159 x0), (3, aP 1 0), (4, aI 0), (7, aI ((List.length x0 : Nat) : Int)), (8, aI d0)], [(1, oX 159 [cI x1.1, cI x1.2.1, cI x1.2.2])]⟩ : St)) (show (0 : Int) = (((0) : Nat) : Int) from by first | with_reducible rfl | (rfl) | rfl)) (by exact ⟨Nat.zero_le _, noneTo_zero⟩) ?_
  intro i a w hok0 h
  refine wp_seq ?_
  refine at_regq (T := S_slices_Index_S_impl_Proof_impl_Proof__tab) [] { ts := [0, 3, 4, 7, 8, 9], os := [1] } [] gamOK hT h (by kernel_rfl) trivial ?_
  intro a w h
  refine then_normal ?_
  refine wp_seq ?_
  refine at_test (decide (((i : Nat) : Int) < ((List.length x0 : Nat) : Int))) h (by kernel_rfl) (fun h1 => ?_) (fun h1 => ?_)
  · replace h1 : ((i : Nat) : Int) < ((List.length x0 : Nat) : Int) := of_decide_eq_true h1
    refine wp_skip ?_
    refine then_normal ?_
    refine wp_seq ?_
    refine wp_block ?_
    refine wp_seq ?_
    refine at_reg (T := S_slices_Index_S_impl_Proof_impl_Proof__tab) [] { ts := [0, 3, 4, 5, 7, 8], os := [1] } ⟨[(0, aF s159 x0), (3, aP 1 0), (4, aI 0), (5, aI ((i : Nat) : Int)), (7, aI ((List.length x0 : Nat) : Int)), (8, aI ((i : Nat) : Int))], [(1, oX 159 [cI x1.1, cI x1.2.1, cI x1.2.2])]⟩ [] gamOK hT h (by kernel_rfl) trivial ?_
    intro a w h
    refine then_normal ?_
    refine wp_seq ?_
    refine at_anyq (T := S_slices_Index_S_impl_Proof_impl_Proof__tab) [{}, {}, {}, {}, {}, {}] { ts := [0, 3, 4, 5, 7, 8, 16], os := [1] } [(0 : Int) ≤ ((i : Nat) : Int) ∧ ((i : Nat) : Int) < ((List.length x0 : Nat) : Int)] gamOK hT mixed h (by kernel_rfl) ⟨(by refine ⟨?_, ?_⟩ <;> (first | omega | (simp only [List.length_append, List.length_cons, List.length_nil, List.length_set, List.length_take, List.length_drop, List.length_replicate, List.length_map, Nat.min_def]; omega) | (simp; done) | (simp; omega) | done)), trivial⟩ ?_
    intro a w h
    refine then_normal ?_
    refine at_test (allEq [x1.1, x1.2.1, x1.2.2] [(x0.getD i (0, (0, 0))).1, (x0.getD i (0, (0, 0))).2.1, (x0.getD i (0, (0, 0))).2.2]) h (by kernel_rfl) (fun h2 => ?_) (fun h2 => ?_)
    · refine wp_seq ?_
      refine at_regq (T := S_slices_Index_S_impl_Proof_impl_Proof__tab) [] { ts := [0, 3, 4, 7, 8], os := [1] } [] gamOK hT h (by kernel_rfl) trivial ?_
      intro a w h
      refine then_normal ?_
      refine wp_ret ?_
      refine in_ret ?_
      refine then_ret ?_
      refine then_ret ?_
      refine in_ret ?_
      refine then_ret ?_
      exact at_return (S := S_slices_Index_S_impl_Proof_impl_Proof_) (x := (x0, x1, ())) (((i : Nat) : Int), ()) [] h (by kernel_rfl) trivial (congrArg (fun z => (z, ())) (show (((i : Nat) : Int)) = D_slices_Index_S_impl_Proof_impl_Proof_ x0 x1 from by unfold D_slices_Index_S_impl_Proof_impl_Proof_; exact (idxF_at (z := (0, (0, 0))) (by omega) hok0.2 (by simpa [allEq, Sh.eqB] using h2)).symm))
    · refine wp_skip ?_
      refine in_normal ?_
      refine then_normal ?_
      refine at_regq (T := S_slices_Index_S_impl_Proof_impl_Proof__tab) [{ nw := true }] { ts := [0, 3, 4, 7, 8], os := [1] } [I64 (((i : Nat) : Int) + 1)] gamOK hT h (by kernel_rfl) ⟨⟨by first | omega | (simp only [List.length_append, List.length_cons, List.length_nil, List.length_set, List.length_take, List.length_drop, List.length_replicate, List.length_map, Nat.min_def]; omega) | (simp; done) | (simp; omega) | done, by first | omega | (simp only [List.length_append, List.length_cons, List.length_nil, List.length_set, List.length_take, List.length_drop, List.length_replicate, List.length_map, Nat.min_def]; omega) | (simp; done) | (simp; omega) | done⟩, trivial⟩ ?_
      intro a w h
      replace h := at_out (σ' := ⟨[(0, aF s159 x0), (3, aP 1 0), (4, aI 0), (7, aI ((List.length x0 : Nat) : Int)), (8, aI (((i : Nat) : Int) + 1))], [(1, oX 159 [cI x1.1, cI x1.2.1, cI x1.2.2])]⟩) { ts := [0, 3, 4, 7, 8], os := [1] } h (by kernel_rfl)
      exact ⟨i + 1, at_eq h (st_congr1 (fun (d0 : Int) => (⟨[(0, aF s159 x0), (3, aP 1 0), (4, aI 0), (7, aI ((List.length x0 : Nat) : Int)), (8, aI d0)], [(1, oX 159 [cI x1.1, cI x1.2.1, cI x1.2.2])]⟩ : St)) (show (((i : Nat) : Int) + 1 : Int) = (((i + 1) : Nat) : Int) from by first | with_reducible rfl | (omega) | rfl)), (by exact ⟨by omega, noneTo_succ hok0.2 (by simpa [allEq, Sh.eqB] using h2)⟩), (by omega)⟩
  · replace h1 : ¬ (((i : Nat) : Int) < ((List.length x0 : Nat) : Int)) := of_decide_eq_false h1
    refine wp_exit ?_
    refine then_exit ?_
    refine then_exit ?_
    refine in_hit ?_
    refine then_normal ?_
    refine wp_seq ?_
    refine at_reg (T := S_slices_Index_S_impl_Proof_impl_Proof__tab) [] { ts := [4], os := [] } ⟨[(4, aI (-1))], []⟩ [] gamOK hT h (by kernel_rfl) trivial ?_
    intro a w h
    refine then_normal ?_
    refine wp_ret ?_
    exact at_return (S := S_slices_Index_S_impl_Proof_impl_Proof_) (x := (x0, x1, ())) ((-1), ()) [] h (by kernel_rfl) trivial (congrArg (fun z => (z, ())) (show ((-1)) = D_slices_Index_S_impl_Proof_impl_Proof_ x0 x1 from by unfold D_slices_Index_S_impl_Proof_impl_Proof_; exact (idxF_none (z := (0, (0, 0))) (by omega) hok0.2).symm))

def D_slices_Contains_S_impl_Proof_impl_Proof_ := (fun (xs : List T159) (v : T159) => xs.any fun e => Sh.eqB s159 v e)
def S_slices_Contains_S_impl_Proof_impl_Proof_ : Sum := { fid := 197, dom := [s51, s159], cod := [(.bool 4)], dp := true, fz := false, pre := fun x => True, g := fun x => ((D_slices_Contains_S_impl_Proof_impl_Proof_ x.1 x.2.1), ()) }
def S_slices_Contains_S_impl_Proof_impl_Proof__tab : List (Nat × Sum) := [(272, S_slices_Index_S_impl_Proof_impl_Proof_)]
theorem S_slices_Contains_S_impl_Proof_impl_Proof__ok : FnOK Try.prog 197 S_slices_Contains_S_impl_Proof_impl_Proof_ := by
  refine at_enter 9 (fun x => ⟨[(0, aF s159 x.1), (1, aG [cI x.2.1.1, cI x.2.1.2.1, cI x.2.1.2.2])], []⟩) Try.func197 rfl (by kernel_rfl) (fun x => rfl) ?_
  rintro w0 Z0 ⟨x0, x1, u⟩ a w
  revert x0 x1
  intro (x0 : (List T159)) (x1 : T159) hpre hlens h
  replace h : At w0 Z0 [] 9 ⟨[(0, aF s159 x0), (1, aG [cI x1.1, cI x1.2.1, cI x1.2.2])], []⟩ a w := h
  have hl1 : List.length x0 ≤ 9223372036854775807 := hlens.1.1
  have hT : TabOK Try.prog S_slices_Contains_S_impl_Proof_impl_Proof__tab := (.cons S_slices_Index_S_impl_Proof_impl_Proof__ok .nil)
  refine wp_seq ?_
  refine at_regq (T := S_slices_Contains_S_impl_Proof_impl_Proof__tab) [{ ids := [1] }] { ts := [0, 3, 4], os := [1] } [] gamOK hT h (by kernel_rfl) trivial ?_
  intro a w h
  refine then_normal ?_
  refine wp_seq ?_
  refine at_regq (T := S_slices_Contains_S_impl_Proof_impl_Proof__tab) [] { ts := [4], os := [] } [True] gamOK hT h (by kernel_rfl) ⟨trivial, trivial⟩ ?_
  intro a w h
  refine then_normal ?_
  refine wp_ret ?_
  exact at_return (S := S_slices_Contains_S_impl_Proof_impl_Proof_) (x := (x0, x1, ())) (decide ((D_slices_Index_S_impl_Proof_impl_Proof_ x0 x1) ≥ 0), ()) [] h (by kernel_rfl) trivial (congrArg (fun z => (z, ())) (show (decide ((D_slices_Index_S_impl_Proof_impl_Proof_ x0 x1) ≥ 0)) = D_slices_Contains_S_impl_Proof_impl_Proof_ x0 x1 from by unfold D_slices_Contains_S_impl_Proof_impl_Proof_; exact idxF_any))

def S_impl_InRange : Sum := { fid := 107, dom := [(.int 3), (.int 3), (.int 3)], cod := [(.bool 4)], dp := true, fz := false, pre := fun x => True, g := fun x => ((inR x.1 x.2.1 x.2.2.1), ()) }
def S_impl_InRange_tab : List (Nat × Sum) := []
theorem S_impl_InRange_ok : FnOK Try.prog 107 S_impl_InRange := by
  refine at_enter 15 (fun x => ⟨[(0, aI x.1), (1, aI x.2.1), (2, aI x.2.2.1)], []⟩) Try.func107 rfl (by kernel_rfl) (fun x => rfl) ?_
  rintro w0 Z0 ⟨x0, x1, x2, u⟩ a w
  revert x0 x1 x2
  intro (x0 : Int) (x1 : Int) (x2 : Int) hpre hlens h
  replace h : At w0 Z0 [] 15 ⟨[(0, aI x0), (1, aI x1), (2, aI x2)], []⟩ a w := h
  have hT : TabOK Try.prog S_impl_InRange_tab := .nil
  refine wp_seq ?_
  refine at_regq (T := S_impl_InRange_tab) [] { ts := [0, 1, 2, 6], os := [] } [] gamOK hT h (by kernel_rfl) trivial ?_
  intro a w h
  refine then_normal ?_
  refine wp_seq ?_
  by_cases h1 : x1 ≤ x0
  · skip
    refine at_regq (T := S_impl_InRange_tab) [{}, {}, { hint := some (aB true) }] { ts := [6], os := [] } [(AV.p (.c (.v (.bool (decide (x1 ≤ x0))))) = AV.p (.c (.v (.bool true))))] gamOK hT h (by kernel_rfl) ⟨hint_bool (decide_eq_true h1), trivial⟩ ?_
    intro a w h
    refine then_normal ?_
    refine wp_ret ?_
    exact at_return (S := S_impl_InRange) (x := (x0, x1, x2, ())) (decide (x0 ≤ x2), ()) [] h (by kernel_rfl) trivial (congrArg (fun z => (z, ())) (show (decide (x0 ≤ x2)) = inR x0 x1 x2 from by (unfold inR; simp [*]; done)))
  · skip
    refine at_regq (T := S_impl_InRange_tab) [{}, {}, { hint := some (aB false) }] { ts := [6], os := [] } [(AV.p (.c (.v (.bool (decide (x1 ≤ x0))))) = AV.p (.c (.v (.bool false))))] gamOK hT h (by kernel_rfl) ⟨hint_bool (decide_eq_false h1), trivial⟩ ?_
    intro a w h
    refine then_normal ?_
    refine wp_ret ?_
    exact at_return (S := S_impl_InRange) (x := (x0, x1, x2, ())) (false, ()) [] h (by kernel_rfl) trivial (congrArg (fun z => (z, ())) (show (false) = inR x0 x1 x2 from by (unfold inR; simp [*]; done)))

def S_spec_l1In : Sum := { fid := 103, dom := [(.int 3), (.int 3), (.int 3)], cod := [(.bool 4)], dp := true, fz := false, pre := fun x => True, g := fun x => ((inR x.1 x.2.1 x.2.2.1), ()) }
def S_spec_l1In_tab : List (Nat × Sum) := []
theorem S_spec_l1In_ok : FnOK Try.prog 103 S_spec_l1In := by
  refine at_enter 15 (fun x => ⟨[(0, aI x.1), (1, aI x.2.1), (2, aI x.2.2.1)], []⟩) Try.func103 rfl (by kernel_rfl) (fun x => rfl) ?_
  rintro w0 Z0 ⟨x0, x1, x2, u⟩ a w
  revert x0 x1 x2
  intro (x0 : Int) (x1 : Int) (x2 : Int) hpre hlens h
  replace h : At w0 Z0 [] 15 ⟨[(0, aI x0), (1, aI x1), (2, aI x2)], []⟩ a w := h
  have hT : TabOK Try.prog S_spec_l1In_tab := .nil
  refine wp_seq ?_
  refine at_regq (T := S_spec_l1In_tab) [] { ts := [0, 1, 2, 6], os := [] } [] gamOK hT h (by kernel_rfl) trivial ?_
  intro a w h
  refine then_normal ?_
  refine wp_seq ?_
  by_cases h1 : x0 ≥ x1
  · skip
    refine at_regq (T := S_spec_l1In_tab) [{}, {}, { hint := some (aB true) }] { ts := [6], os := [] } [(AV.p (.c (.v (.bool (decide (x0 ≥ x1))))) = AV.p (.c (.v (.bool true))))] gamOK hT h (by kernel_rfl) ⟨hint_bool (decide_eq_true h1), trivial⟩ ?_
    intro a w h
    refine then_normal ?_
    refine wp_ret ?_
    exact at_return (S := S_spec_l1In) (x := (x0, x1, x2, ())) (decide (x0 ≤ x2), ()) [] h (by kernel_rfl) trivial (congrArg (fun z => (z, ())) (show (decide (x0 ≤ x2)) = inR x0 x1 x2 from by (unfold inR; first | (simp only [ge_iff_le] at *; simp [*]; done) | (rw [decide_eq_false]; omega))))
  · skip
    refine at_regq (T := S_spec_l1In_tab) [{}, {}, { hint := some (aB false) }] { ts := [6], os := [] } [(AV.p (.c (.v (.bool (decide (x0 ≥ x1))))) = AV.p (.c (.v (.bool false))))] gamOK hT h (by kernel_rfl) ⟨hint_bool (decide_eq_false h1), trivial⟩ ?_
    intro a w h
    refine then_normal ?_
    refine wp_ret ?_
    exact at_return (S := S_spec_l1In) (x := (x0, x1, x2, ())) (false, ()) [] h (by kernel_rfl) trivial (congrArg (fun z => (z, ())) (show (false) = inR x0 x1 x2 from by (unfold inR; first | (simp only [ge_iff_le] at *; simp [*]; done) | (rw [decide_eq_false]; omega))))

def modF (x0 : Int) (x1 : Int) : Int := (if (inR x1 1 1000000000000) = true then (Int.tmod ((Int.tmod x0 x1) + x1) x1) else 0)
def S_impl_Mod : Sum := { fid := 333, dom := [(.int 3), (.int 3)], cod := [(.int 3)], dp := true, fz := false, pre := fun x => True, g := fun x => ((modF x.1 x.2.1), ()) }
def S_impl_Mod_tab : List (Nat × Sum) := [(107, S_impl_InRange)]
theorem S_impl_Mod_ok : FnOK Try.prog 333 S_impl_Mod := by
  refine at_enter 15 (fun x => ⟨[(0, aI x.1), (1, aI x.2.1)], []⟩) Try.func333 rfl (by kernel_rfl) (fun x => rfl) ?_
  rintro w0 Z0 ⟨x0, x1, u⟩ a w
  revert x0 x1
  intro (x0 : Int) (x1 : Int) hpre hlens h
  replace h : At w0 Z0 [] 15 ⟨[(0, aI x0), (1, aI x1)], []⟩ a w := h
  have hT : TabOK Try.prog S_impl_Mod_tab := (.cons S_impl_InRange_ok .nil)
  refine wp_seq ?_
  refine at_regq (T := S_impl_Mod_tab) [] { ts := [0, 1, 4], os := [] } [] gamOK hT h (by kernel_rfl) trivial ?_
  intro a w h
  refine then_normal ?_
  refine wp_seq ?_
  refine wp_seq ?_
  refine at_regq (T := S_impl_Mod_tab) [] { ts := [0, 1, 4, 7], os := [] } [True] gamOK hT h (by kernel_rfl) ⟨trivial, trivial⟩ ?_
  intro a w h
  refine then_normal ?_
  refine at_test (!(inR x1 1 1000000000000)) h (by kernel_rfl) (fun h1 => ?_) (fun h1 => ?_)
  · replace h1 : (inR x1 1 1000000000000) = false := notT h1
    have hvh1 := inR_f h1
    refine wp_seq ?_
    refine at_regq (T := S_impl_Mod_tab) [] { ts := [0, 1, 4], os := [] } [] gamOK hT h (by kernel_rfl) trivial ?_
    intro a w h
    refine then_normal ?_
    refine wp_ret ?_
    refine then_ret ?_
    exact at_return (S := S_impl_Mod) (x := (x0, x1, ())) (0, ()) [] h (by kernel_rfl) trivial (congrArg (fun z => (z, ())) (show (0) = modF x0 x1 from by first | rfl | (unfold modF; rw [if_neg (neT h1)])))
  · replace h1 : (inR x1 1 1000000000000) = true := notF h1
    have hvh1 := inR_t h1
    refine wp_skip ?_
    refine then_normal ?_
    refine wp_seq ?_
    refine at_regq (T := S_impl_Mod_tab) [{}, {}, {}, {}, { nw := true }] { ts := [4], os := [] } [(x1 : Int) ≠ 0, I64 ((Int.tmod x0 x1) + x1), (x1 : Int) ≠ 0] gamOK hT h (by kernel_rfl) ⟨(by first | omega | (have := tmod_bd (p := x0) (q := x1) (by omega); omega)), ⟨by (have hA0 := tmod_v x0 x1; first | omega | (have := tmod_bd (p := x0) (q := x1) (by omega); omega)), by (have hA0 := tmod_v x0 x1; first | omega | (have := tmod_bd (p := x0) (q := x1) (by omega); omega))⟩, (by first | omega | (have := tmod_bd (p := x0) (q := x1) (by omega); omega)), trivial⟩ ?_
    intro a w h
    refine then_normal ?_
    refine wp_ret ?_
    exact at_return (S := S_impl_Mod) (x := (x0, x1, ())) ((Int.tmod ((Int.tmod x0 x1) + x1) x1), ()) [] h (by kernel_rfl) trivial (congrArg (fun z => (z, ())) (show ((Int.tmod ((Int.tmod x0 x1) + x1) x1)) = modF x0 x1 from by first | rfl | (unfold modF; rw [if_pos h1])))

def S_spec_Mod : Sum := { fid := 323, dom := [(.int 3), (.int 3)], cod := [(.int 3)], dp := true, fz := false, pre := fun x => True, g := fun x => ((modF x.1 x.2.1), ()) }
def S_spec_Mod_tab : List (Nat × Sum) := [(103, S_spec_l1In)]
theorem S_spec_Mod_ok : FnOK Try.prog 323 S_spec_Mod := by
  refine at_enter 15 (fun x => ⟨[(0, aI x.1), (1, aI x.2.1)], []⟩) Try.func323 rfl (by kernel_rfl) (fun x => rfl) ?_
  rintro w0 Z0 ⟨x0, x1, u⟩ a w
  revert x0 x1
  intro (x0 : Int) (x1 : Int) hpre hlens h
  replace h : At w0 Z0 [] 15 ⟨[(0, aI x0), (1, aI x1)], []⟩ a w := h
  have hT : TabOK Try.prog S_spec_Mod_tab := (.cons S_spec_l1In_ok .nil)
  refine wp_seq ?_
  refine at_regq (T := S_spec_Mod_tab) [] { ts := [0, 1, 4], os := [] } [] gamOK hT h (by kernel_rfl) trivial ?_
  intro a w h
  refine then_normal ?_
  refine wp_seq ?_
  refine wp_seq ?_
  refine at_regq (T := S_spec_Mod_tab) [] { ts := [0, 1, 4, 7], os := [] } [True] gamOK hT h (by kernel_rfl) ⟨trivial, trivial⟩ ?_
  intro a w h
  refine then_normal ?_
  refine at_test (!(inR x1 1 1000000000000)) h (by kernel_rfl) (fun h1 => ?_) (fun h1 => ?_)
  · replace h1 : (inR x1 1 1000000000000) = false := notT h1
    have hvh1 := inR_f h1
    refine wp_seq ?_
    refine at_regq (T := S_spec_Mod_tab) [] { ts := [0, 1, 4], os := [] } [] gamOK hT h (by kernel_rfl) trivial ?_
    intro a w h
    refine then_normal ?_
    refine wp_ret ?_
    refine then_ret ?_
    exact at_return (S := S_spec_Mod) (x := (x0, x1, ())) (0, ()) [] h (by kernel_rfl) trivial (congrArg (fun z => (z, ())) (show (0) = modF x0 x1 from by first | rfl | (unfold modF; rw [if_neg (neT h1)]; done) | (unfold modF; simp_all)))
  · replace h1 : (inR x1 1 1000000000000) = true := notF h1
    have hvh1 := inR_t h1
    refine wp_skip ?_
    refine then_normal ?_
    refine wp_seq ?_
    refine at_regq (T := S_spec_Mod_tab) [{}, {}, {}, {}, { nw := true }] { ts := [4], os := [] } [(x1 : Int) ≠ 0, I64 ((Int.tmod x0 x1) + x1), (x1 : Int) ≠ 0] gamOK hT h (by kernel_rfl) ⟨(by first | omega | (have := tmod_bd (p := x0) (q := x1) (by omega); omega)), ⟨by (have hA0 := tmod_v x0 x1; first | omega | (have := tmod_bd (p := x0) (q := x1) (by omega); omega)), by (have hA0 := tmod_v x0 x1; first | omega | (have := tmod_bd (p := x0) (q := x1) (by omega); omega))⟩, (by first | omega | (have := tmod_bd (p := x0) (q := x1) (by omega); omega)), trivial⟩ ?_
    intro a w h
    refine then_normal ?_
    refine wp_ret ?_
    exact at_return (S := S_spec_Mod) (x := (x0, x1, ())) ((Int.tmod ((Int.tmod x0 x1) + x1) x1), ()) [] h (by kernel_rfl) trivial (congrArg (fun z => (z, ())) (show ((Int.tmod ((Int.tmod x0 x1) + x1) x1)) = modF x0 x1 from by first | rfl | (unfold modF; rw [if_pos h1]; done) | (unfold modF; simp_all)))

def isEl (x0 : Int) : Bool := (inR x0 0 1018)
def S_impl_IsElement : Sum := { fid := 305, dom := [(.int 3)], cod := [(.bool 4)], dp := true, fz := false, pre := fun x => True, g := fun x => ((isEl x.1), ()) }
def S_impl_IsElement_tab : List (Nat × Sum) := [(107, S_impl_InRange)]
theorem S_impl_IsElement_ok : FnOK Try.prog 305 S_impl_IsElement := by
  refine at_enter 5 (fun x => ⟨[(0, aI x.1)], []⟩) Try.func305 rfl (by kernel_rfl) (fun x => rfl) ?_
  rintro w0 Z0 ⟨x0, u⟩ a w
  revert x0
  intro (x0 : Int) hpre hlens h
  replace h : At w0 Z0 [] 5 ⟨[(0, aI x0)], []⟩ a w := h
  have hT : TabOK Try.prog S_impl_IsElement_tab := (.cons S_impl_InRange_ok .nil)
  refine wp_seq ?_
  refine at_regq (T := S_impl_IsElement_tab) [] { ts := [0, 2], os := [] } [] gamOK hT h (by kernel_rfl) trivial ?_
  intro a w h
  refine then_normal ?_
  refine wp_seq ?_
  refine at_regq (T := S_impl_IsElement_tab) [] { ts := [2], os := [] } [True] gamOK hT h (by kernel_rfl) ⟨trivial, trivial⟩ ?_
  intro a w h
  refine then_normal ?_
  refine wp_ret ?_
  exact at_return (S := S_impl_IsElement) (x := (x0, ())) ((inR x0 0 1018), ()) [] h (by kernel_rfl) trivial (congrArg (fun z => (z, ())) (show ((inR x0 0 1018)) = isEl x0 from by rfl))
theorem isEl_t {x : Int} (h : isEl x = true) : 0 ≤ x ∧ x ≤ 1018 := inR_t h

def S_spec_IsElement : Sum := { fid := 288, dom := [(.int 3)], cod := [(.bool 4)], dp := true, fz := false, pre := fun x => True, g := fun x => ((isEl x.1), ()) }
def S_spec_IsElement_tab : List (Nat × Sum) := [(103, S_spec_l1In)]
theorem S_spec_IsElement_ok : FnOK Try.prog 288 S_spec_IsElement := by
  refine at_enter 5 (fun x => ⟨[(0, aI x.1)], []⟩) Try.func288 rfl (by kernel_rfl) (fun x => rfl) ?_
  rintro w0 Z0 ⟨x0, u⟩ a w
  revert x0
  intro (x0 : Int) hpre hlens h
  replace h : At w0 Z0 [] 5 ⟨[(0, aI x0)], []⟩ a w := h
  have hT : TabOK Try.prog S_spec_IsElement_tab := (.cons S_spec_l1In_ok .nil)
  refine wp_seq ?_
  refine at_regq (T := S_spec_IsElement_tab) [] { ts := [0, 2], os := [] } [] gamOK hT h (by kernel_rfl) trivial ?_
  intro a w h
  refine then_normal ?_
  refine wp_seq ?_
  refine at_regq (T := S_spec_IsElement_tab) [] { ts := [2], os := [] } [True] gamOK hT h (by kernel_rfl) ⟨trivial, trivial⟩ ?_
  intro a w h
  refine then_normal ?_
  refine wp_ret ?_
  exact at_return (S := S_spec_IsElement) (x := (x0, ())) ((inR x0 0 1018), ()) [] h (by kernel_rfl) trivial (congrArg (fun z => (z, ())) (show ((inR x0 0 1018)) = isEl x0 from by first | rfl | (unfold isEl; rfl; done) | (unfold isEl; simp_all)))

def S_laws_eqIntS : Sum := { fid := 88, dom := [s22, s22], cod := [(.bool 4)], dp := true, fz := false, pre := fun x => True, g := fun x => (((Sh.eqB s22) x.1 x.2.1), ()) }
def S_laws_eqIntS_tab : List (Nat × Sum) := []
theorem S_laws_eqIntS_ok : FnOK Try.prog 88 S_laws_eqIntS := by
  refine at_enter 26 (fun x => ⟨[(0, aF (.int 3) x.1), (1, aF (.int 3) x.2.1)], []⟩) Try.func88 rfl (by kernel_rfl) (fun x => rfl) ?_
  rintro w0 Z0 ⟨x0, x1, u⟩ a w
  revert x0 x1
  intro (x0 : (List Int)) (x1 : (List Int)) hpre hlens h
  replace h : At w0 Z0 [] 26 ⟨[(0, aF (.int 3) x0), (1, aF (.int 3) x1)], []⟩ a w := h
  have hl1 : List.length x0 ≤ 9223372036854775807 := hlens.1.1
  have hl2 : List.length x1 ≤ 9223372036854775807 := hlens.2.1.1
  have hT : TabOK Try.prog S_laws_eqIntS_tab := .nil
  refine wp_seq ?_
  refine at_regq (T := S_laws_eqIntS_tab) [] { ts := [0, 1, 4], os := [] } [] gamOK hT h (by kernel_rfl) trivial ?_
  intro a w h
  refine then_normal ?_
  refine wp_seq ?_
  refine wp_seq ?_
  refine at_regq (T := S_laws_eqIntS_tab) [] { ts := [0, 1, 4, 10], os := [] } [] gamOK hT h (by kernel_rfl) trivial ?_
  intro a w h
  refine then_normal ?_
  refine at_test (!decide (((List.length x0 : Nat) : Int) = ((List.length x1 : Nat) : Int))) h (by kernel_rfl) (fun h1 => ?_) (fun h1 => ?_)
  · replace h1 : ¬ (((List.length x0 : Nat) : Int) = ((List.length x1 : Nat) : Int)) := of_decide_eq_false (notT h1)
    refine wp_seq ?_
    refine at_regq (T := S_laws_eqIntS_tab) [] { ts := [0, 1, 4], os := [] } [] gamOK hT h (by kernel_rfl) trivial ?_
    intro a w h
    refine then_normal ?_
    refine wp_ret ?_
    refine then_ret ?_
    exact at_return (S := S_laws_eqIntS) (x := (x0, x1, ())) (false, ()) [] h (by kernel_rfl) trivial (congrArg (fun z => (z, ())) (show (false) = (Sh.eqB s22) x0 x1 from by exact (Sh.eqB_ne (fun e => h1 (by rw [e]))).symm))
  · replace h1 : ((List.length x0 : Nat) : Int) = ((List.length x1 : Nat) : Int) := of_decide_eq_true (notF h1)
    refine wp_skip ?_
    refine then_normal ?_
    refine wp_seq ?_
    refine wp_seq ?_
    refine at_regq (T := S_laws_eqIntS_tab) [] { ts := [0, 1, 4, 5], os := [] } [] gamOK hT h (by kernel_rfl) trivial ?_
    intro a w h
    refine then_normal ?_
    refine wp_block ?_
    replace h := at_out (σ' := ⟨[(0, aF (.int 3) x0), (1, aF (.int 3) x1), (4, aB false), (5, aI 0)], []⟩) { ts := [0, 1, 4, 5], os := [] } h (by kernel_rfl)
    refine at_loop (fun i : Nat => (⟨[(0, aF (.int 3) x0), (1, aF (.int 3) x1), (4, aB false), (5, aI ((i : Nat) : Int))], []⟩ : St)) (fun i => (i ≤ List.length x0 ∧ x0.take i = x1.take i)) (fun i => List.length x0 - i) (0) h (st_congr1 (fun (d0 : Int) => (⟨[(0, aF (.int 3) x0), (1, aF (.int 3) x1), (4, aB false), (5, aI d0)], []⟩ : St)) (show (0 : Int) = (((0) : Nat) : Int) from by first | with_reducible rfl | (rfl) | rfl)) (by exact ⟨Nat.zero_le _, rfl⟩) ?_
    intro i a w hok0 h
    refine wp_seq ?_
    refine wp_seq ?_
    refine at_reg (T := S_laws_eqIntS_tab) [] { ts := [0, 1, 4, 5, 14], os := [] } ⟨[(0, aF (.int 3) x0), (1, aF (.int 3) x1), (4, aB false), (5, aI ((i : Nat) : Int)), (14, aB (decide (((i : Nat) : Int) < ((List.length x0 : Nat) : Int))))], []⟩ [] gamOK hT h (by kernel_rfl) trivial ?_
    intro a w h
    refine then_normal ?_
    refine at_test (decide (((i : Nat) : Int) < ((List.length x0 : Nat) : Int))) h (by kernel_rfl) (fun h2 => ?_) (fun h2 => ?_)
    · replace h2 : ((i : Nat) : Int) < ((List.length x0 : Nat) : Int) := of_decide_eq_true h2
      refine wp_skip ?_
      refine then_normal ?_
      refine wp_seq ?_
      refine wp_block ?_
      refine wp_seq ?_
      refine at_anyq (T := S_laws_eqIntS_tab) [{}, {}, {}, {}, {}, {}, {}, {}, {}] { ts := [0, 1, 4, 5, 25], os := [] } [(0 : Int) ≤ ((i : Nat) : Int) ∧ ((i : Nat) : Int) < ((List.length x0 : Nat) : Int), (0 : Int) ≤ ((i : Nat) : Int) ∧ ((i : Nat) : Int) < ((List.length x1 : Nat) : Int)] gamOK hT mixed h (by kernel_rfl) ⟨(by refine ⟨?_, ?_⟩ <;> (first | omega | (simp only [List.length_append, List.length_cons, List.length_nil, List.length_set, List.length_take, List.length_drop, List.length_replicate, List.length_map, Nat.min_def]; omega) | (simp; done) | (simp; omega) | done)), (by refine ⟨?_, ?_⟩ <;> (first | omega | (simp only [List.length_append, List.length_cons, List.length_nil, List.length_set, List.length_take, List.length_drop, List.length_replicate, List.length_map, Nat.min_def]; omega) | (simp; done) | (simp; omega) | done)), trivial⟩ ?_
      intro a w h
      refine then_normal ?_
      refine at_test (!decide ((x0.getD i 0) = (x1.getD i 0))) h (by kernel_rfl) (fun h3 => ?_) (fun h3 => ?_)
      · replace h3 : ¬ ((x0.getD i 0) = (x1.getD i 0)) := of_decide_eq_false (notT h3)
        refine wp_seq ?_
        refine at_regq (T := S_laws_eqIntS_tab) [] { ts := [0, 1, 4, 5], os := [] } [] gamOK hT h (by kernel_rfl) trivial ?_
        intro a w h
        refine then_normal ?_
        refine wp_ret ?_
        refine in_ret ?_
        refine then_ret ?_
        refine then_ret ?_
        refine in_ret ?_
        refine then_ret ?_
        exact at_return (S := S_laws_eqIntS) (x := (x0, x1, ())) (false, ()) [] h (by kernel_rfl) trivial (congrArg (fun z => (z, ())) (show (false) = (Sh.eqB s22) x0 x1 from by exact (Sh.eqB_ne (s := s22) (fun e => h3 (by rw [e]))).symm))
      · replace h3 : (x0.getD i 0) = (x1.getD i 0) := of_decide_eq_true (notF h3)
        refine wp_skip ?_
        refine in_normal ?_
        refine then_normal ?_
        refine at_regq (T := S_laws_eqIntS_tab) [{}, { nw := true }] { ts := [0, 1, 4, 5], os := [] } [I64 (((i : Nat) : Int) + 1)] gamOK hT h (by kernel_rfl) ⟨⟨by first | omega | (simp only [List.length_append, List.length_cons, List.length_nil, List.length_set, List.length_take, List.length_drop, List.length_replicate, List.length_map, Nat.min_def]; omega) | (simp; done) | (simp; omega) | done, by first | omega | (simp only [List.length_append, List.length_cons, List.length_nil, List.length_set, List.length_take, List.length_drop, List.length_replicate, List.length_map, Nat.min_def]; omega) | (simp; done) | (simp; omega) | done⟩, trivial⟩ ?_
        intro a w h
        replace h := at_out (σ' := ⟨[(0, aF (.int 3) x0), (1, aF (.int 3) x1), (4, aB false), (5, aI (((i : Nat) : Int) + 1))], []⟩) { ts := [0, 1, 4, 5], os := [] } h (by kernel_rfl)
        exact ⟨i + 1, at_eq h (st_congr1 (fun (d0 : Int) => (⟨[(0, aF (.int 3) x0), (1, aF (.int 3) x1), (4, aB false), (5, aI d0)], []⟩ : St)) (show (((i : Nat) : Int) + 1 : Int) = (((i + 1) : Nat) : Int) from by first | with_reducible rfl | (omega) | rfl)), (by exact ⟨by omega, eqTo_step (z := 0) (by omega) (by omega) hok0.2 h3⟩), (by omega)⟩
    · replace h2 : ¬ (((i : Nat) : Int) < ((List.length x0 : Nat) : Int)) := of_decide_eq_false h2
      refine wp_exit ?_
      refine then_exit ?_
      refine then_exit ?_
      refine in_hit ?_
      refine then_normal ?_
      refine wp_seq ?_
      refine at_regq (T := S_laws_eqIntS_tab) [] { ts := [4], os := [] } [] gamOK hT h (by kernel_rfl) trivial ?_
      intro a w h
      refine then_normal ?_
      refine wp_ret ?_
      exact at_return (S := S_laws_eqIntS) (x := (x0, x1, ())) (true, ()) [] h (by kernel_rfl) trivial (congrArg (fun z => (z, ())) (show (true) = (Sh.eqB s22) x0 x1 from by (have e := hok0.2; rw [take_all (by omega), take_all (by omega)] at e; exact ((Sh.eqB_iff s22).2 e).symm)))

def S_laws_eqCodedPacket : Sum := { fid := 59, dom := [s61, s61], cod := [(.bool 4)], dp := true, fz := false, pre := fun x => True, g := fun x => (((Sh.eqB s61) x.1 x.2.1), ()) }
def S_laws_eqCodedPacket_tab : List (Nat × Sum) := [(88, S_laws_eqIntS)]
theorem S_laws_eqCodedPacket_ok : FnOK Try.prog 59 S_laws_eqCodedPacket := by
  refine at_enter 22 (fun x => ⟨[(0, aG [cI x.1.1, .ro (.int 3) x.1.2.1, .ro (.int 3) x.1.2.2]), (1, aG [cI x.2.1.1, .ro (.int 3) x.2.1.2.1, .ro (.int 3) x.2.1.2.2])], []⟩) Try.func59 rfl (by kernel_rfl) (fun x => rfl) ?_
  rintro w0 Z0 ⟨x0, x1, u⟩ a w
  revert x0 x1
  intro (x0 : T61) (x1 : T61) hpre hlens h
  replace h : At w0 Z0 [] 22 ⟨[(0, aG [cI x0.1, .ro (.int 3) x0.2.1, .ro (.int 3) x0.2.2]), (1, aG [cI x1.1, .ro (.int 3) x1.2.1, .ro (.int 3) x1.2.2])], []⟩ a w := h
  have hl1 : List.length x0.2.1 ≤ 9223372036854775807 := hlens.1.2.1.1
  have hl2 : List.length x0.2.2 ≤ 9223372036854775807 := hlens.1.2.2.1
  have hl3 : List.length x1.2.1 ≤ 9223372036854775807 := hlens.2.1.2.1.1
  have hl4 : List.length x1.2.2 ≤ 9223372036854775807 := hlens.2.1.2.2.1
  have hT : TabOK Try.prog S_laws_eqCodedPacket_tab := (.cons S_laws_eqIntS_ok .nil)
  refine wp_seq ?_
  refine at_regq (T := S_laws_eqCodedPacket_tab) [{ ids := [1] }, { ids := [2] }] { ts := [2, 3, 4], os := [1, 2] } [] gamOK hT h (by kernel_rfl) trivial ?_
  intro a w h
  refine then_normal ?_
  refine wp_seq ?_
  refine wp_seq ?_
  refine at_regq (T := S_laws_eqCodedPacket_tab) [] { ts := [2, 3, 4, 9], os := [1, 2] } [] gamOK hT h (by kernel_rfl) trivial ?_
  intro a w h
  refine then_normal ?_
  refine at_test (!decide (x0.1 = x1.1)) h (by kernel_rfl) (fun h1 => ?_) (fun h1 => ?_)
  · replace h1 : ¬ (x0.1 = x1.1) := of_decide_eq_false (notT h1)
    refine wp_seq ?_
    refine at_regq (T := S_laws_eqCodedPacket_tab) [] { ts := [2, 3, 4], os := [1, 2] } [] gamOK hT h (by kernel_rfl) trivial ?_
    intro a w h
    refine then_normal ?_
    refine wp_ret ?_
    refine then_ret ?_
    exact at_return (S := S_laws_eqCodedPacket) (x := (x0, x1, ())) (false, ()) [] h (by kernel_rfl) trivial (congrArg (fun z => (z, ())) (show (false) = (Sh.eqB s61) x0 x1 from by exact (Sh.eqB_ne (s := s61) (fun e => h1 (congrArg (fun (y : T61) => y.1) e))).symm))
  · replace h1 : x0.1 = x1.1 := of_decide_eq_true (notF h1)
    refine wp_skip ?_
    refine then_normal ?_
    refine wp_seq ?_
    refine wp_seq ?_
    refine at_regq (T := S_laws_eqCodedPacket_tab) [] { ts := [2, 3, 4, 15], os := [1, 2] } [True] gamOK hT h (by kernel_rfl) ⟨trivial, trivial⟩ ?_
    intro a w h
    refine then_normal ?_
    refine at_test (!((Sh.eqB s22) x0.2.1 x1.2.1)) h (by kernel_rfl) (fun h2 => ?_) (fun h2 => ?_)
    · replace h2 : ((Sh.eqB s22) x0.2.1 x1.2.1) = false := notT h2
      refine wp_seq ?_
      refine at_reg (T := S_laws_eqCodedPacket_tab) [] { ts := [2, 3, 4], os := [1, 2] } ⟨[(2, aP 1 0), (3, aP 2 0), (4, aB false)], [(1, oX 61 [cI x0.1, .ro (.int 3) x0.2.1, .ro (.int 3) x0.2.2]), (2, oX 61 [cI x1.1, .ro (.int 3) x1.2.1, .ro (.int 3) x1.2.2])]⟩ [] gamOK hT h (by kernel_rfl) trivial ?_
      intro a w h
      refine then_normal ?_
      refine wp_ret ?_
      refine then_ret ?_
      exact at_return (S := S_laws_eqCodedPacket) (x := (x0, x1, ())) (false, ()) [] h (by kernel_rfl) trivial (congrArg (fun z => (z, ())) (show (false) = (Sh.eqB s61) x0 x1 from by exact (Sh.eqB_ne (s := s61) (fun e => Sh.of_eqB_ne h2 (congrArg (fun (y : T61) => y.2.1) e))).symm))
    · replace h2 : ((Sh.eqB s22) x0.2.1 x1.2.1) = true := notF h2
      refine wp_skip ?_
      refine then_normal ?_
      refine wp_seq ?_
      refine wp_seq ?_
      refine at_reg (T := S_laws_eqCodedPacket_tab) [] { ts := [4, 21], os := [] } ⟨[(4, aB false), (21, aB (!((Sh.eqB s22) x0.2.2 x1.2.2)))], []⟩ [True] gamOK hT h (by kernel_rfl) ⟨trivial, trivial⟩ ?_
      intro a w h
      refine then_normal ?_
      refine at_test (!((Sh.eqB s22) x0.2.2 x1.2.2)) h (by kernel_rfl) (fun h3 => ?_) (fun h3 => ?_)
      · replace h3 : ((Sh.eqB s22) x0.2.2 x1.2.2) = false := notT h3
        refine wp_seq ?_
        refine at_regq (T := S_laws_eqCodedPacket_tab) [] { ts := [4], os := [] } [] gamOK hT h (by kernel_rfl) trivial ?_
        intro a w h
        refine then_normal ?_
        refine wp_ret ?_
        refine then_ret ?_
        exact at_return (S := S_laws_eqCodedPacket) (x := (x0, x1, ())) (false, ()) [] h (by kernel_rfl) trivial (congrArg (fun z => (z, ())) (show (false) = (Sh.eqB s61) x0 x1 from by exact (Sh.eqB_ne (s := s61) (fun e => Sh.of_eqB_ne h3 (congrArg (fun (y : T61) => y.2.2) e))).symm))
      · replace h3 : ((Sh.eqB s22) x0.2.2 x1.2.2) = true := notF h3
        refine wp_skip ?_
        refine then_normal ?_
        refine wp_seq ?_
        refine at_regq (T := S_laws_eqCodedPacket_tab) [] { ts := [4], os := [] } [] gamOK hT h (by kernel_rfl) trivial ?_
        intro a w h
        refine then_normal ?_
        refine wp_ret ?_
        exact at_return (S := S_laws_eqCodedPacket) (x := (x0, x1, ())) (true, ()) [] h (by kernel_rfl) trivial (congrArg (fun z => (z, ())) (show (true) = (Sh.eqB s61) x0 x1 from by exact ((Sh.eqB_iff s61).2 (Prod.ext h1 (Prod.ext (Sh.of_eqB h2) (Sh.of_eqB h3)))).symm))

def S_laws_eqHashKey : Sum := { fid := 28, dom := [s57, s57], cod := [(.bool 4)], dp := true, fz := false, pre := fun x => True, g := fun x => (((Sh.eqB s57) x.1 x.2.1), ()) }
def S_laws_eqHashKey_tab : List (Nat × Sum) := [(88, S_laws_eqIntS)]
theorem S_laws_eqHashKey_ok : FnOK Try.prog 28 S_laws_eqHashKey := by
  refine at_enter 11 (fun x => ⟨[(0, aG [.ro (.int 3) x.1]), (1, aG [.ro (.int 3) x.2.1])], []⟩) Try.func28 rfl (by kernel_rfl) (fun x => rfl) ?_
  rintro w0 Z0 ⟨x0, x1, u⟩ a w
  revert x0 x1
  intro (x0 : (List Int)) (x1 : (List Int)) hpre hlens h
  replace h : At w0 Z0 [] 11 ⟨[(0, aG [.ro (.int 3) x0]), (1, aG [.ro (.int 3) x1])], []⟩ a w := h
  have hl1 : List.length x0 ≤ 9223372036854775807 := hlens.1.1
  have hl2 : List.length x1 ≤ 9223372036854775807 := hlens.2.1.1
  have hT : TabOK Try.prog S_laws_eqHashKey_tab := (.cons S_laws_eqIntS_ok .nil)
  refine wp_seq ?_
  refine at_regq (T := S_laws_eqHashKey_tab) [{ ids := [1] }, { ids := [2] }] { ts := [2, 3, 4], os := [1, 2] } [] gamOK hT h (by kernel_rfl) trivial ?_
  intro a w h
  refine then_normal ?_
  refine wp_seq ?_
  refine wp_seq ?_
  refine at_regq (T := S_laws_eqHashKey_tab) [] { ts := [4, 10], os := [] } [True] gamOK hT h (by kernel_rfl) ⟨trivial, trivial⟩ ?_
  intro a w h
  refine then_normal ?_
  refine at_test (!((Sh.eqB s22) x0 x1)) h (by kernel_rfl) (fun h1 => ?_) (fun h1 => ?_)
  · replace h1 : ((Sh.eqB s22) x0 x1) = false := notT h1
    refine wp_seq ?_
    refine at_regq (T := S_laws_eqHashKey_tab) [] { ts := [4], os := [] } [] gamOK hT h (by kernel_rfl) trivial ?_
    intro a w h
    refine then_normal ?_
    refine wp_ret ?_
    refine then_ret ?_
    exact at_return (S := S_laws_eqHashKey) (x := (x0, x1, ())) (false, ()) [] h (by kernel_rfl) trivial (congrArg (fun z => (z, ())) (show (false) = (Sh.eqB s57) x0 x1 from by exact (Sh.eqB_ne (s := s57) (fun e => Sh.of_eqB_ne h1 e)).symm))
  · replace h1 : ((Sh.eqB s22) x0 x1) = true := notF h1
    refine wp_skip ?_
    refine then_normal ?_
    refine wp_seq ?_
    refine at_regq (T := S_laws_eqHashKey_tab) [] { ts := [4], os := [] } [] gamOK hT h (by kernel_rfl) trivial ?_
    intro a w h
    refine then_normal ?_
    refine wp_ret ?_
    exact at_return (S := S_laws_eqHashKey) (x := (x0, x1, ())) (true, ()) [] h (by kernel_rfl) trivial (congrArg (fun z => (z, ())) (show (true) = (Sh.eqB s57) x0 x1 from by exact ((Sh.eqB_iff s57).2 (Sh.of_eqB h1)).symm))

def S_laws_eqProof : Sum := { fid := 198, dom := [s159, s159], cod := [(.bool 4)], dp := true, fz := false, pre := fun x => True, g := fun x => (((Sh.eqB s159) x.1 x.2.1), ()) }
def S_laws_eqProof_tab : List (Nat × Sum) := []
theorem S_laws_eqProof_ok : FnOK Try.prog 198 S_laws_eqProof := by
  refine at_enter 20 (fun x => ⟨[(0, aG [cI x.1.1, cI x.1.2.1, cI x.1.2.2]), (1, aG [cI x.2.1.1, cI x.2.1.2.1, cI x.2.1.2.2])], []⟩) Try.func198 rfl (by kernel_rfl) (fun x => rfl) ?_
  rintro w0 Z0 ⟨x0, x1, u⟩ a w
  revert x0 x1
  intro (x0 : T159) (x1 : T159) hpre hlens h
  replace h : At w0 Z0 [] 20 ⟨[(0, aG [cI x0.1, cI x0.2.1, cI x0.2.2]), (1, aG [cI x1.1, cI x1.2.1, cI x1.2.2])], []⟩ a w := h
  have hT : TabOK Try.prog S_laws_eqProof_tab := .nil
  refine wp_seq ?_
  refine at_regq (T := S_laws_eqProof_tab) [{ ids := [1] }, { ids := [2] }] { ts := [2, 3, 4], os := [1, 2] } [] gamOK hT h (by kernel_rfl) trivial ?_
  intro a w h
  refine then_normal ?_
  refine wp_seq ?_
  refine wp_seq ?_
  refine at_regq (T := S_laws_eqProof_tab) [] { ts := [2, 3, 4, 9], os := [1, 2] } [] gamOK hT h (by kernel_rfl) trivial ?_
  intro a w h
  refine then_normal ?_
  refine at_test (!decide (x0.1 = x1.1)) h (by kernel_rfl) (fun h1 => ?_) (fun h1 => ?_)
  · replace h1 : ¬ (x0.1 = x1.1) := of_decide_eq_false (notT h1)
    refine wp_seq ?_
    refine at_regq (T := S_laws_eqProof_tab) [] { ts := [2, 3, 4], os := [1, 2] } [] gamOK hT h (by kernel_rfl) trivial ?_
    intro a w h
    refine then_normal ?_
    refine wp_ret ?_
    refine then_ret ?_
    exact at_return (S := S_laws_eqProof) (x := (x0, x1, ())) (false, ()) [] h (by kernel_rfl) trivial (congrArg (fun z => (z, ())) (show (false) = (Sh.eqB s159) x0 x1 from by exact (Sh.eqB_ne (s := s159) (fun e => h1 (congrArg (fun (y : T159) => y.1) e))).symm))
  · replace h1 : x0.1 = x1.1 := of_decide_eq_true (notF h1)
    refine wp_skip ?_
    refine then_normal ?_
    refine wp_seq ?_
    refine wp_seq ?_
    refine at_regq (T := S_laws_eqProof_tab) [] { ts := [2, 3, 4, 14], os := [1, 2] } [] gamOK hT h (by kernel_rfl) trivial ?_
    intro a w h
    refine then_normal ?_
    refine at_test (!decide (x0.2.1 = x1.2.1)) h (by kernel_rfl) (fun h2 => ?_) (fun h2 => ?_)
    · replace h2 : ¬ (x0.2.1 = x1.2.1) := of_decide_eq_false (notT h2)
      refine wp_seq ?_
      refine at_reg (T := S_laws_eqProof_tab) [] { ts := [2, 3, 4], os := [1, 2] } ⟨[(2, aP 1 0), (3, aP 2 0), (4, aB false)], [(1, oX 159 [cI x0.1, cI x0.2.1, cI x0.2.2]), (2, oX 159 [cI x1.1, cI x1.2.1, cI x1.2.2])]⟩ [] gamOK hT h (by kernel_rfl) trivial ?_
      intro a w h
      refine then_normal ?_
      refine wp_ret ?_
      refine then_ret ?_
      exact at_return (S := S_laws_eqProof) (x := (x0, x1, ())) (false, ()) [] h (by kernel_rfl) trivial (congrArg (fun z => (z, ())) (show (false) = (Sh.eqB s159) x0 x1 from by exact (Sh.eqB_ne (s := s159) (fun e => h2 (congrArg (fun (y : T159) => y.2.1) e))).symm))
    · replace h2 : x0.2.1 = x1.2.1 := of_decide_eq_true (notF h2)
      refine wp_skip ?_
      refine then_normal ?_
      refine wp_seq ?_
      refine wp_seq ?_
      refine at_reg (T := S_laws_eqProof_tab) [] { ts := [4, 19], os := [] } ⟨[(4, aB false), (19, aB (!decide (x0.2.2 = x1.2.2)))], []⟩ [] gamOK hT h (by kernel_rfl) trivial ?_
      intro a w h
      refine then_normal ?_
      refine at_test (!decide (x0.2.2 = x1.2.2)) h (by kernel_rfl) (fun h3 => ?_) (fun h3 => ?_)
      · replace h3 : ¬ (x0.2.2 = x1.2.2) := of_decide_eq_false (notT h3)
        refine wp_seq ?_
        refine at_regq (T := S_laws_eqProof_tab) [] { ts := [4], os := [] } [] gamOK hT h (by kernel_rfl) trivial ?_
        intro a w h
        refine then_normal ?_
        refine wp_ret ?_
        refine then_ret ?_
        exact at_return (S := S_laws_eqProof) (x := (x0, x1, ())) (false, ()) [] h (by kernel_rfl) trivial (congrArg (fun z => (z, ())) (show (false) = (Sh.eqB s159) x0 x1 from by exact (Sh.eqB_ne (s := s159) (fun e => h3 (congrArg (fun (y : T159) => y.2.2) e))).symm))
      · replace h3 : x0.2.2 = x1.2.2 := of_decide_eq_true (notF h3)
        refine wp_skip ?_
        refine then_normal ?_
        refine wp_seq ?_
        refine at_regq (T := S_laws_eqProof_tab) [] { ts := [4], os := [] } [] gamOK hT h (by kernel_rfl) trivial ?_
        intro a w h
        refine then_normal ?_
        refine wp_ret ?_
        exact at_return (S := S_laws_eqProof) (x := (x0, x1, ())) (true, ()) [] h (by kernel_rfl) trivial (congrArg (fun z => (z, ())) (show (true) = (Sh.eqB s159) x0 x1 from by exact ((Sh.eqB_iff s159).2 (Prod.ext h1 (Prod.ext h2 h3))).symm))

def S_laws_eqProofS : Sum := { fid := 99, dom := [s51, s51], cod := [(.bool 4)], dp := true, fz := false, pre := fun x => True, g := fun x => (((Sh.eqB s51) x.1 x.2.1), ()) }
def S_laws_eqProofS_tab : List (Nat × Sum) := [(198, S_laws_eqProof)]
theorem S_laws_eqProofS_ok : FnOK Try.prog 99 S_laws_eqProofS := by
  refine at_enter 27 (fun x => ⟨[(0, aF s159 x.1), (1, aF s159 x.2.1)], []⟩) Try.func99 rfl (by kernel_rfl) (fun x => rfl) ?_
  rintro w0 Z0 ⟨x0, x1, u⟩ a w
  revert x0 x1
  intro (x0 : (List T159)) (x1 : (List T159)) hpre hlens h
  replace h : At w0 Z0 [] 27 ⟨[(0, aF s159 x0), (1, aF s159 x1)], []⟩ a w := h
  have hl1 : List.length x0 ≤ 9223372036854775807 := hlens.1.1
  have hl2 : List.length x1 ≤ 9223372036854775807 := hlens.2.1.1
  have hT : TabOK Try.prog S_laws_eqProofS_tab := (.cons S_laws_eqProof_ok .nil)
  refine wp_seq ?_
  refine at_regq (T := S_laws_eqProofS_tab) [] { ts := [0, 1, 4], os := [] } [] gamOK hT h (by kernel_rfl) trivial ?_
  intro a w h
  refine then_normal ?_
  refine wp_seq ?_
  refine wp_seq ?_
  refine at_regq (T := S_laws_eqProofS_tab) [] { ts := [0, 1, 4, 10], os := [] } [] gamOK hT h (by kernel_rfl) trivial ?_
  intro a w h
  refine then_normal ?_
  refine at_test (!decide (((List.length x0 : Nat) : Int) = ((List.length x1 : Nat) : Int))) h (by kernel_rfl) (fun h1 => ?_) (fun h1 => ?_)
  · replace h1 : ¬ (((List.length x0 : Nat) : Int) = ((List.length x1 : Nat) : Int)) := of_decide_eq_false (notT h1)
    refine wp_seq ?_
    refine at_regq (T := S_laws_eqProofS_tab) [] { ts := [0, 1, 4], os := [] } [] gamOK hT h (by kernel_rfl) trivial ?_
    intro a w h
    refine then_normal ?_
    refine wp_ret ?_
    refine then_ret ?_
    exact at_return (S := S_laws_eqProofS) (x := (x0, x1, ())) (false, ()) [] h (by kernel_rfl) trivial (congrArg (fun z => (z, ())) (show (false) = (Sh.eqB s51) x0 x1 from by exact (Sh.eqB_ne (fun e => h1 (by rw [e]))).symm))
  · replace h1 : ((List.length x0 : Nat) : Int) = ((List.length x1 : Nat) : Int) := of_decide_eq_true (notF h1)
    refine wp_skip ?_
    refine then_normal ?_
    refine wp_seq ?_
    refine wp_seq ?_
    refine at_regq (T := S_laws_eqProofS_tab) [] { ts := [0, 1, 4, 5], os := [] } [] gamOK hT h (by kernel_rfl) trivial ?_
    intro a w h
    refine then_normal ?_
    refine wp_block ?_
    replace h := at_out (σ' := ⟨[(0, aF s159 x0), (1, aF s159 x1), (4, aB false), (5, aI 0)], []⟩) { ts := [0, 1, 4, 5], os := [] } h (by kernel_rfl)
    refine at_loop (fun i : Nat => (⟨[(0, aF s159 x0), (1, aF s159 x1), (4, aB false), (5, aI ((i : Nat) : Int))], []⟩ : St)) (fun i => (i ≤ List.length x0 ∧ x0.take i = x1.take i)) (fun i => List.length x0 - i) (0) h (st_congr1 (fun (d0 : Int) => (⟨[(0, aF s159 x0), (1, aF s159 x1), (4, aB false), (5, aI d0)], []⟩ : St)) (show (0 : Int) = (((0) : Nat) : Int) from by first | with_reducible rfl | (rfl) | rfl)) (by exact ⟨Nat.zero_le _, rfl⟩) ?_
    intro i a w hok0 h
    refine wp_seq ?_
    refine wp_seq ?_
    refine at_reg (T := S_laws_eqProofS_tab) [] { ts := [0, 1, 4, 5, 14], os := [] } ⟨[(0, aF s159 x0), (1, aF s159 x1), (4, aB false), (5, aI ((i : Nat) : Int)), (14, aB (decide (((i : Nat) : Int) < ((List.length x0 : Nat) : Int))))], []⟩ [] gamOK hT h (by kernel_rfl) trivial ?_
    intro a w h
    refine then_normal ?_
    refine at_test (decide (((i : Nat) : Int) < ((List.length x0 : Nat) : Int))) h (by kernel_rfl) (fun h2 => ?_) (fun h2 => ?_)
    · replace h2 : ((i : Nat) : Int) < ((List.length x0 : Nat) : Int) := of_decide_eq_true h2
      refine wp_skip ?_
      refine then_normal ?_
      refine wp_seq ?_
      refine wp_block ?_
      refine wp_seq ?_
      refine at_anyq (T := S_laws_eqProofS_tab) [{}, {}, {}, {}, {}, {}, {}, {}, {}, {}] { ts := [0, 1, 4, 5, 26], os := [] } [(0 : Int) ≤ ((i : Nat) : Int) ∧ ((i : Nat) : Int) < ((List.length x0 : Nat) : Int), (0 : Int) ≤ ((i : Nat) : Int) ∧ ((i : Nat) : Int) < ((List.length x1 : Nat) : Int), True] gamOK hT mixed h (by kernel_rfl) ⟨(by refine ⟨?_, ?_⟩ <;> (first | omega | (simp only [List.length_append, List.length_cons, List.length_nil, List.length_set, List.length_take, List.length_drop, List.length_replicate, List.length_map, Nat.min_def]; omega) | (simp; done) | (simp; omega) | done)), (by refine ⟨?_, ?_⟩ <;> (first | omega | (simp only [List.length_append, List.length_cons, List.length_nil, List.length_set, List.length_take, List.length_drop, List.length_replicate, List.length_map, Nat.min_def]; omega) | (simp; done) | (simp; omega) | done)), trivial, trivial⟩ ?_
      intro a w h
      refine then_normal ?_
      refine at_test (!((Sh.eqB s159) (x0.getD i (0, (0, 0))) (x1.getD i (0, (0, 0))))) h (by kernel_rfl) (fun h3 => ?_) (fun h3 => ?_)
      · replace h3 : ((Sh.eqB s159) (x0.getD i (0, (0, 0))) (x1.getD i (0, (0, 0)))) = false := notT h3
        refine wp_seq ?_
        refine at_regq (T := S_laws_eqProofS_tab) [] { ts := [0, 1, 4, 5], os := [] } [] gamOK hT h (by kernel_rfl) trivial ?_
        intro a w h
        refine then_normal ?_
        refine wp_ret ?_
        refine in_ret ?_
        refine then_ret ?_
        refine then_ret ?_
        refine in_ret ?_
        refine then_ret ?_
        exact at_return (S := S_laws_eqProofS) (x := (x0, x1, ())) (false, ()) [] h (by kernel_rfl) trivial (congrArg (fun z => (z, ())) (show (false) = (Sh.eqB s51) x0 x1 from by exact (Sh.eqB_ne (s := s51) (fun e => Sh.of_eqB_ne h3 (by rw [e]))).symm))
      · replace h3 : ((Sh.eqB s159) (x0.getD i (0, (0, 0))) (x1.getD i (0, (0, 0)))) = true := notF h3
        refine wp_skip ?_
        refine in_normal ?_
        refine then_normal ?_
        refine at_regq (T := S_laws_eqProofS_tab) [{}, { nw := true }] { ts := [0, 1, 4, 5], os := [] } [I64 (((i : Nat) : Int) + 1)] gamOK hT h (by kernel_rfl) ⟨⟨by first | omega | (simp only [List.length_append, List.length_cons, List.length_nil, List.length_set, List.length_take, List.length_drop, List.length_replicate, List.length_map, Nat.min_def]; omega) | (simp; done) | (simp; omega) | done, by first | omega | (simp only [List.length_append, List.length_cons, List.length_nil, List.length_set, List.length_take, List.length_drop, List.length_replicate, List.length_map, Nat.min_def]; omega) | (simp; done) | (simp; omega) | done⟩, trivial⟩ ?_
        intro a w h
        replace h := at_out (σ' := ⟨[(0, aF s159 x0), (1, aF s159 x1), (4, aB false), (5, aI (((i : Nat) : Int) + 1))], []⟩) { ts := [0, 1, 4, 5], os := [] } h (by kernel_rfl)
        exact ⟨i + 1, at_eq h (st_congr1 (fun (d0 : Int) => (⟨[(0, aF s159 x0), (1, aF s159 x1), (4, aB false), (5, aI d0)], []⟩ : St)) (show (((i : Nat) : Int) + 1 : Int) = (((i + 1) : Nat) : Int) from by first | with_reducible rfl | (omega) | rfl)), (by exact ⟨by omega, eqTo_step (z := (0, (0, 0))) (by omega) (by omega) hok0.2 (Sh.of_eqB h3)⟩), (by omega)⟩
    · replace h2 : ¬ (((i : Nat) : Int) < ((List.length x0 : Nat) : Int)) := of_decide_eq_false h2
      refine wp_exit ?_
      refine then_exit ?_
      refine then_exit ?_
      refine in_hit ?_
      refine then_normal ?_
      refine wp_seq ?_
      refine at_regq (T := S_laws_eqProofS_tab) [] { ts := [4], os := [] } [] gamOK hT h (by kernel_rfl) trivial ?_
      intro a w h
      refine then_normal ?_
      refine wp_ret ?_
      exact at_return (S := S_laws_eqProofS) (x := (x0, x1, ())) (true, ()) [] h (by kernel_rfl) trivial (congrArg (fun z => (z, ())) (show (true) = (Sh.eqB s51) x0 x1 from by (have e := hok0.2; rw [take_all (by omega), take_all (by omega)] at e; exact ((Sh.eqB_iff s51).2 e).symm)))

def S_laws_eqLedger : Sum := { fid := 27, dom := [s53, s53], cod := [(.bool 4)], dp := true, fz := false, pre := fun x => True, g := fun x => (((Sh.eqB s53) x.1 x.2.1), ()) }
def S_laws_eqLedger_tab : List (Nat × Sum) := [(99, S_laws_eqProofS)]
theorem S_laws_eqLedger_ok : FnOK Try.prog 27 S_laws_eqLedger := by
  refine at_enter 11 (fun x => ⟨[(0, aG [.ro s159 x.1]), (1, aG [.ro s159 x.2.1])], []⟩) Try.func27 rfl (by kernel_rfl) (fun x => rfl) ?_
  rintro w0 Z0 ⟨x0, x1, u⟩ a w
  revert x0 x1
  intro (x0 : (List T159)) (x1 : (List T159)) hpre hlens h
  replace h : At w0 Z0 [] 11 ⟨[(0, aG [.ro s159 x0]), (1, aG [.ro s159 x1])], []⟩ a w := h
  have hl1 : List.length x0 ≤ 9223372036854775807 := hlens.1.1
  have hl2 : List.length x1 ≤ 9223372036854775807 := hlens.2.1.1
  have hT : TabOK Try.prog S_laws_eqLedger_tab := (.cons S_laws_eqProofS_ok .nil)
  refine wp_seq ?_
  refine at_regq (T := S_laws_eqLedger_tab) [{ ids := [1] }, { ids := [2] }] { ts := [2, 3, 4], os := [1, 2] } [] gamOK hT h (by kernel_rfl) trivial ?_
  intro a w h
  refine then_normal ?_
  refine wp_seq ?_
  refine wp_seq ?_
  refine at_regq (T := S_laws_eqLedger_tab) [] { ts := [4, 10], os := [] } [True] gamOK hT h (by kernel_rfl) ⟨trivial, trivial⟩ ?_
  intro a w h
  refine then_normal ?_
  refine at_test (!((Sh.eqB s51) x0 x1)) h (by kernel_rfl) (fun h1 => ?_) (fun h1 => ?_)
  · replace h1 : ((Sh.eqB s51) x0 x1) = false := notT h1
    refine wp_seq ?_
    refine at_regq (T := S_laws_eqLedger_tab) [] { ts := [4], os := [] } [] gamOK hT h (by kernel_rfl) trivial ?_
    intro a w h
    refine then_normal ?_
    refine wp_ret ?_
    refine then_ret ?_
    exact at_return (S := S_laws_eqLedger) (x := (x0, x1, ())) (false, ()) [] h (by kernel_rfl) trivial (congrArg (fun z => (z, ())) (show (false) = (Sh.eqB s53) x0 x1 from by exact (Sh.eqB_ne (s := s53) (fun e => Sh.of_eqB_ne h1 e)).symm))
  · replace h1 : ((Sh.eqB s51) x0 x1) = true := notF h1
    refine wp_skip ?_
    refine then_normal ?_
    refine wp_seq ?_
    refine at_regq (T := S_laws_eqLedger_tab) [] { ts := [4], os := [] } [] gamOK hT h (by kernel_rfl) trivial ?_
    intro a w h
    refine then_normal ?_
    refine wp_ret ?_
    exact at_return (S := S_laws_eqLedger) (x := (x0, x1, ())) (true, ()) [] h (by kernel_rfl) trivial (congrArg (fun z => (z, ())) (show (true) = (Sh.eqB s53) x0 x1 from by exact ((Sh.eqB_iff s53).2 (Sh.of_eqB h1)).symm))

def S_laws_eqLinkPacket : Sum := { fid := 30, dom := [s63, s63], cod := [(.bool 4)], dp := true, fz := false, pre := fun x => True, g := fun x => (((Sh.eqB s63) x.1 x.2.1), ()) }
def S_laws_eqLinkPacket_tab : List (Nat × Sum) := [(59, S_laws_eqCodedPacket)]
theorem S_laws_eqLinkPacket_ok : FnOK Try.prog 30 S_laws_eqLinkPacket := by
  refine at_enter 31 (fun x => ⟨[(0, aG [cI x.1.1, cI x.1.2.1, cI x.1.2.2.1, cI x.1.2.2.2.1.1, .ro (.int 3) x.1.2.2.2.1.2.1, .ro (.int 3) x.1.2.2.2.1.2.2, cI x.1.2.2.2.2]), (1, aG [cI x.2.1.1, cI x.2.1.2.1, cI x.2.1.2.2.1, cI x.2.1.2.2.2.1.1, .ro (.int 3) x.2.1.2.2.2.1.2.1, .ro (.int 3) x.2.1.2.2.2.1.2.2, cI x.2.1.2.2.2.2])], []⟩) Try.func30 rfl (by kernel_rfl) (fun x => rfl) ?_
  rintro w0 Z0 ⟨x0, x1, u⟩ a w
  revert x0 x1
  intro (x0 : T63) (x1 : T63) hpre hlens h
  replace h : At w0 Z0 [] 31 ⟨[(0, aG [cI x0.1, cI x0.2.1, cI x0.2.2.1, cI x0.2.2.2.1.1, .ro (.int 3) x0.2.2.2.1.2.1, .ro (.int 3) x0.2.2.2.1.2.2, cI x0.2.2.2.2]), (1, aG [cI x1.1, cI x1.2.1, cI x1.2.2.1, cI x1.2.2.2.1.1, .ro (.int 3) x1.2.2.2.1.2.1, .ro (.int 3) x1.2.2.2.1.2.2, cI x1.2.2.2.2])], []⟩ a w := h
  have hl1 : List.length x0.2.2.2.1.2.1 ≤ 9223372036854775807 := hlens.1.2.2.2.1.2.1.1
  have hl2 : List.length x0.2.2.2.1.2.2 ≤ 9223372036854775807 := hlens.1.2.2.2.1.2.2.1
  have hl3 : List.length x1.2.2.2.1.2.1 ≤ 9223372036854775807 := hlens.2.1.2.2.2.1.2.1.1
  have hl4 : List.length x1.2.2.2.1.2.2 ≤ 9223372036854775807 := hlens.2.1.2.2.2.1.2.2.1
  have hT : TabOK Try.prog S_laws_eqLinkPacket_tab := (.cons S_laws_eqCodedPacket_ok .nil)
  refine wp_seq ?_
  refine at_regq (T := S_laws_eqLinkPacket_tab) [{ ids := [1] }, { ids := [2] }] { ts := [2, 3, 4], os := [1, 2] } [] gamOK hT h (by kernel_rfl) trivial ?_
  intro a w h
  refine then_normal ?_
  refine wp_seq ?_
  refine wp_seq ?_
  refine at_regq (T := S_laws_eqLinkPacket_tab) [] { ts := [2, 3, 4, 9], os := [1, 2] } [] gamOK hT h (by kernel_rfl) trivial ?_
  intro a w h
  refine then_normal ?_
  refine at_test (!decide (x0.1 = x1.1)) h (by kernel_rfl) (fun h1 => ?_) (fun h1 => ?_)
  · replace h1 : ¬ (x0.1 = x1.1) := of_decide_eq_false (notT h1)
    refine wp_seq ?_
    refine at_regq (T := S_laws_eqLinkPacket_tab) [] { ts := [2, 3, 4], os := [1, 2] } [] gamOK hT h (by kernel_rfl) trivial ?_
    intro a w h
    refine then_normal ?_
    refine wp_ret ?_
    refine then_ret ?_
    exact at_return (S := S_laws_eqLinkPacket) (x := (x0, x1, ())) (false, ()) [] h (by kernel_rfl) trivial (congrArg (fun z => (z, ())) (show (false) = (Sh.eqB s63) x0 x1 from by exact (Sh.eqB_ne (s := s63) (fun e => h1 (congrArg (fun (y : T63) => y.1) e))).symm))
  · replace h1 : x0.1 = x1.1 := of_decide_eq_true (notF h1)
    refine wp_skip ?_
    refine then_normal ?_
    refine wp_seq ?_
    refine wp_seq ?_
    refine at_regq (T := S_laws_eqLinkPacket_tab) [] { ts := [2, 3, 4, 14], os := [1, 2] } [] gamOK hT h (by kernel_rfl) trivial ?_
    intro a w h
    refine then_normal ?_
    refine at_test (!decide (x0.2.1 = x1.2.1)) h (by kernel_rfl) (fun h2 => ?_) (fun h2 => ?_)
    · replace h2 : ¬ (x0.2.1 = x1.2.1) := of_decide_eq_false (notT h2)
      refine wp_seq ?_
      refine at_reg (T := S_laws_eqLinkPacket_tab) [] { ts := [2, 3, 4], os := [1, 2] } ⟨[(2, aP 1 0), (3, aP 2 0), (4, aB false)], [(1, oX 63 [cI x0.1, cI x0.2.1, cI x0.2.2.1, cI x0.2.2.2.1.1, .ro (.int 3) x0.2.2.2.1.2.1, .ro (.int 3) x0.2.2.2.1.2.2, cI x0.2.2.2.2]), (2, oX 63 [cI x1.1, cI x1.2.1, cI x1.2.2.1, cI x1.2.2.2.1.1, .ro (.int 3) x1.2.2.2.1.2.1, .ro (.int 3) x1.2.2.2.1.2.2, cI x1.2.2.2.2])]⟩ [] gamOK hT h (by kernel_rfl) trivial ?_
      intro a w h
      refine then_normal ?_
      refine wp_ret ?_
      refine then_ret ?_
      exact at_return (S := S_laws_eqLinkPacket) (x := (x0, x1, ())) (false, ()) [] h (by kernel_rfl) trivial (congrArg (fun z => (z, ())) (show (false) = (Sh.eqB s63) x0 x1 from by exact (Sh.eqB_ne (s := s63) (fun e => h2 (congrArg (fun (y : T63) => y.2.1) e))).symm))
    · replace h2 : x0.2.1 = x1.2.1 := of_decide_eq_true (notF h2)
      refine wp_skip ?_
      refine then_normal ?_
      refine wp_seq ?_
      refine wp_seq ?_
      refine at_reg (T := S_laws_eqLinkPacket_tab) [] { ts := [2, 3, 4, 19], os := [1, 2] } ⟨[(2, aP 1 0), (3, aP 2 0), (4, aB false), (19, aB (!decide (x0.2.2.1 = x1.2.2.1)))], [(1, oX 63 [cI x0.1, cI x0.2.1, cI x0.2.2.1, cI x0.2.2.2.1.1, .ro (.int 3) x0.2.2.2.1.2.1, .ro (.int 3) x0.2.2.2.1.2.2, cI x0.2.2.2.2]), (2, oX 63 [cI x1.1, cI x1.2.1, cI x1.2.2.1, cI x1.2.2.2.1.1, .ro (.int 3) x1.2.2.2.1.2.1, .ro (.int 3) x1.2.2.2.1.2.2, cI x1.2.2.2.2])]⟩ [] gamOK hT h (by kernel_rfl) trivial ?_
      intro a w h
      refine then_normal ?_
      refine at_test (!decide (x0.2.2.1 = x1.2.2.1)) h (by kernel_rfl) (fun h3 => ?_) (fun h3 => ?_)
      · replace h3 : ¬ (x0.2.2.1 = x1.2.2.1) := of_decide_eq_false (notT h3)
        refine wp_seq ?_
        refine at_regq (T := S_laws_eqLinkPacket_tab) [] { ts := [2, 3, 4], os := [1, 2] } [] gamOK hT h (by kernel_rfl) trivial ?_
        intro a w h
        refine then_normal ?_
        refine wp_ret ?_
        refine then_ret ?_
        exact at_return (S := S_laws_eqLinkPacket) (x := (x0, x1, ())) (false, ()) [] h (by kernel_rfl) trivial (congrArg (fun z => (z, ())) (show (false) = (Sh.eqB s63) x0 x1 from by exact (Sh.eqB_ne (s := s63) (fun e => h3 (congrArg (fun (y : T63) => y.2.2.1) e))).symm))
      · replace h3 : x0.2.2.1 = x1.2.2.1 := of_decide_eq_true (notF h3)
        refine wp_skip ?_
        refine then_normal ?_
        refine wp_seq ?_
        refine wp_seq ?_
        refine at_regq (T := S_laws_eqLinkPacket_tab) [] { ts := [2, 3, 4, 25], os := [1, 2] } [True] gamOK hT h (by kernel_rfl) ⟨trivial, trivial⟩ ?_
        intro a w h
        refine then_normal ?_
        refine at_test (!((Sh.eqB s61) x0.2.2.2.1 x1.2.2.2.1)) h (by kernel_rfl) (fun h4 => ?_) (fun h4 => ?_)
        · replace h4 : ((Sh.eqB s61) x0.2.2.2.1 x1.2.2.2.1) = false := notT h4
          refine wp_seq ?_
          refine at_regq (T := S_laws_eqLinkPacket_tab) [] { ts := [2, 3, 4], os := [1, 2] } [] gamOK hT h (by kernel_rfl) trivial ?_
          intro a w h
          refine then_normal ?_
          refine wp_ret ?_
          refine then_ret ?_
          exact at_return (S := S_laws_eqLinkPacket) (x := (x0, x1, ())) (false, ()) [] h (by kernel_rfl) trivial (congrArg (fun z => (z, ())) (show (false) = (Sh.eqB s63) x0 x1 from by exact (Sh.eqB_ne (s := s63) (fun e => Sh.of_eqB_ne h4 (congrArg (fun (y : T63) => y.2.2.2.1) e))).symm))
        · replace h4 : ((Sh.eqB s61) x0.2.2.2.1 x1.2.2.2.1) = true := notF h4
          refine wp_skip ?_
          refine then_normal ?_
          refine wp_seq ?_
          refine wp_seq ?_
          refine at_regq (T := S_laws_eqLinkPacket_tab) [] { ts := [4, 30], os := [] } [] gamOK hT h (by kernel_rfl) trivial ?_
          intro a w h
          refine then_normal ?_
          refine at_test (!decide (x0.2.2.2.2 = x1.2.2.2.2)) h (by kernel_rfl) (fun h5 => ?_) (fun h5 => ?_)
          · replace h5 : ¬ (x0.2.2.2.2 = x1.2.2.2.2) := of_decide_eq_false (notT h5)
            refine wp_seq ?_
            refine at_regq (T := S_laws_eqLinkPacket_tab) [] { ts := [4], os := [] } [] gamOK hT h (by kernel_rfl) trivial ?_
            intro a w h
            refine then_normal ?_
            refine wp_ret ?_
            refine then_ret ?_
            exact at_return (S := S_laws_eqLinkPacket) (x := (x0, x1, ())) (false, ()) [] h (by kernel_rfl) trivial (congrArg (fun z => (z, ())) (show (false) = (Sh.eqB s63) x0 x1 from by exact (Sh.eqB_ne (s := s63) (fun e => h5 (congrArg (fun (y : T63) => y.2.2.2.2) e))).symm))
          · replace h5 : x0.2.2.2.2 = x1.2.2.2.2 := of_decide_eq_true (notF h5)
            refine wp_skip ?_
            refine then_normal ?_
            refine wp_seq ?_
            refine at_regq (T := S_laws_eqLinkPacket_tab) [] { ts := [4], os := [] } [] gamOK hT h (by kernel_rfl) trivial ?_
            intro a w h
            refine then_normal ?_
            refine wp_ret ?_
            exact at_return (S := S_laws_eqLinkPacket) (x := (x0, x1, ())) (true, ()) [] h (by kernel_rfl) trivial (congrArg (fun z => (z, ())) (show (true) = (Sh.eqB s63) x0 x1 from by exact ((Sh.eqB_iff s63).2 (Prod.ext h1 (Prod.ext h2 (Prod.ext h3 (Prod.ext (Sh.of_eqB h4) h5))))).symm))

def S_laws_eqManifest : Sum := { fid := 29, dom := [s59, s59], cod := [(.bool 4)], dp := true, fz := false, pre := fun x => True, g := fun x => (((Sh.eqB s59) x.1 x.2.1), ()) }
def S_laws_eqManifest_tab : List (Nat × Sum) := [(88, S_laws_eqIntS)]
theorem S_laws_eqManifest_ok : FnOK Try.prog 29 S_laws_eqManifest := by
  refine at_enter 36 (fun x => ⟨[(0, aG [cI x.1.1, cI x.1.2.1, cI x.1.2.2.1, cI x.1.2.2.2.1, .ro (.int 3) x.1.2.2.2.2.1, cI x.1.2.2.2.2.2]), (1, aG [cI x.2.1.1, cI x.2.1.2.1, cI x.2.1.2.2.1, cI x.2.1.2.2.2.1, .ro (.int 3) x.2.1.2.2.2.2.1, cI x.2.1.2.2.2.2.2])], []⟩) Try.func29 rfl (by kernel_rfl) (fun x => rfl) ?_
  rintro w0 Z0 ⟨x0, x1, u⟩ a w
  revert x0 x1
  intro (x0 : T59) (x1 : T59) hpre hlens h
  replace h : At w0 Z0 [] 36 ⟨[(0, aG [cI x0.1, cI x0.2.1, cI x0.2.2.1, cI x0.2.2.2.1, .ro (.int 3) x0.2.2.2.2.1, cI x0.2.2.2.2.2]), (1, aG [cI x1.1, cI x1.2.1, cI x1.2.2.1, cI x1.2.2.2.1, .ro (.int 3) x1.2.2.2.2.1, cI x1.2.2.2.2.2])], []⟩ a w := h
  have hl1 : List.length x0.2.2.2.2.1 ≤ 9223372036854775807 := hlens.1.2.2.2.2.1.1
  have hl2 : List.length x1.2.2.2.2.1 ≤ 9223372036854775807 := hlens.2.1.2.2.2.2.1.1
  have hT : TabOK Try.prog S_laws_eqManifest_tab := (.cons S_laws_eqIntS_ok .nil)
  refine wp_seq ?_
  refine at_regq (T := S_laws_eqManifest_tab) [{ ids := [1] }, { ids := [2] }] { ts := [2, 3, 4], os := [1, 2] } [] gamOK hT h (by kernel_rfl) trivial ?_
  intro a w h
  refine then_normal ?_
  refine wp_seq ?_
  refine wp_seq ?_
  refine at_regq (T := S_laws_eqManifest_tab) [] { ts := [2, 3, 4, 9], os := [1, 2] } [] gamOK hT h (by kernel_rfl) trivial ?_
  intro a w h
  refine then_normal ?_
  refine at_test (!decide (x0.1 = x1.1)) h (by kernel_rfl) (fun h1 => ?_) (fun h1 => ?_)
  · replace h1 : ¬ (x0.1 = x1.1) := of_decide_eq_false (notT h1)
    refine wp_seq ?_
    refine at_regq (T := S_laws_eqManifest_tab) [] { ts := [2, 3, 4], os := [1, 2] } [] gamOK hT h (by kernel_rfl) trivial ?_
    intro a w h
    refine then_normal ?_
    refine wp_ret ?_
    refine then_ret ?_
    exact at_return (S := S_laws_eqManifest) (x := (x0, x1, ())) (false, ()) [] h (by kernel_rfl) trivial (congrArg (fun z => (z, ())) (show (false) = (Sh.eqB s59) x0 x1 from by exact (Sh.eqB_ne (s := s59) (fun e => h1 (congrArg (fun (y : T59) => y.1) e))).symm))
  · replace h1 : x0.1 = x1.1 := of_decide_eq_true (notF h1)
    refine wp_skip ?_
    refine then_normal ?_
    refine wp_seq ?_
    refine wp_seq ?_
    refine at_regq (T := S_laws_eqManifest_tab) [] { ts := [2, 3, 4, 14], os := [1, 2] } [] gamOK hT h (by kernel_rfl) trivial ?_
    intro a w h
    refine then_normal ?_
    refine at_test (!decide (x0.2.1 = x1.2.1)) h (by kernel_rfl) (fun h2 => ?_) (fun h2 => ?_)
    · replace h2 : ¬ (x0.2.1 = x1.2.1) := of_decide_eq_false (notT h2)
      refine wp_seq ?_
      refine at_reg (T := S_laws_eqManifest_tab) [] { ts := [2, 3, 4], os := [1, 2] } ⟨[(2, aP 1 0), (3, aP 2 0), (4, aB false)], [(1, oX 59 [cI x0.1, cI x0.2.1, cI x0.2.2.1, cI x0.2.2.2.1, .ro (.int 3) x0.2.2.2.2.1, cI x0.2.2.2.2.2]), (2, oX 59 [cI x1.1, cI x1.2.1, cI x1.2.2.1, cI x1.2.2.2.1, .ro (.int 3) x1.2.2.2.2.1, cI x1.2.2.2.2.2])]⟩ [] gamOK hT h (by kernel_rfl) trivial ?_
      intro a w h
      refine then_normal ?_
      refine wp_ret ?_
      refine then_ret ?_
      exact at_return (S := S_laws_eqManifest) (x := (x0, x1, ())) (false, ()) [] h (by kernel_rfl) trivial (congrArg (fun z => (z, ())) (show (false) = (Sh.eqB s59) x0 x1 from by exact (Sh.eqB_ne (s := s59) (fun e => h2 (congrArg (fun (y : T59) => y.2.1) e))).symm))
    · replace h2 : x0.2.1 = x1.2.1 := of_decide_eq_true (notF h2)
      refine wp_skip ?_
      refine then_normal ?_
      refine wp_seq ?_
      refine wp_seq ?_
      refine at_reg (T := S_laws_eqManifest_tab) [] { ts := [2, 3, 4, 19], os := [1, 2] } ⟨[(2, aP 1 0), (3, aP 2 0), (4, aB false), (19, aB (!decide (x0.2.2.1 = x1.2.2.1)))], [(1, oX 59 [cI x0.1, cI x0.2.1, cI x0.2.2.1, cI x0.2.2.2.1, .ro (.int 3) x0.2.2.2.2.1, cI x0.2.2.2.2.2]), (2, oX 59 [cI x1.1, cI x1.2.1, cI x1.2.2.1, cI x1.2.2.2.1, .ro (.int 3) x1.2.2.2.2.1, cI x1.2.2.2.2.2])]⟩ [] gamOK hT h (by kernel_rfl) trivial ?_
      intro a w h
      refine then_normal ?_
      refine at_test (!decide (x0.2.2.1 = x1.2.2.1)) h (by kernel_rfl) (fun h3 => ?_) (fun h3 => ?_)
      · replace h3 : ¬ (x0.2.2.1 = x1.2.2.1) := of_decide_eq_false (notT h3)
        refine wp_seq ?_
        refine at_regq (T := S_laws_eqManifest_tab) [] { ts := [2, 3, 4], os := [1, 2] } [] gamOK hT h (by kernel_rfl) trivial ?_
        intro a w h
        refine then_normal ?_
        refine wp_ret ?_
        refine then_ret ?_
        exact at_return (S := S_laws_eqManifest) (x := (x0, x1, ())) (false, ()) [] h (by kernel_rfl) trivial (congrArg (fun z => (z, ())) (show (false) = (Sh.eqB s59) x0 x1 from by exact (Sh.eqB_ne (s := s59) (fun e => h3 (congrArg (fun (y : T59) => y.2.2.1) e))).symm))
      · replace h3 : x0.2.2.1 = x1.2.2.1 := of_decide_eq_true (notF h3)
        refine wp_skip ?_
        refine then_normal ?_
        refine wp_seq ?_
        refine wp_seq ?_
        refine at_regq (T := S_laws_eqManifest_tab) [] { ts := [2, 3, 4, 24], os := [1, 2] } [] gamOK hT h (by kernel_rfl) trivial ?_
        intro a w h
        refine then_normal ?_
        refine at_test (!decide (x0.2.2.2.1 = x1.2.2.2.1)) h (by kernel_rfl) (fun h4 => ?_) (fun h4 => ?_)
        · replace h4 : ¬ (x0.2.2.2.1 = x1.2.2.2.1) := of_decide_eq_false (notT h4)
          refine wp_seq ?_
          refine at_regq (T := S_laws_eqManifest_tab) [] { ts := [2, 3, 4], os := [1, 2] } [] gamOK hT h (by kernel_rfl) trivial ?_
          intro a w h
          refine then_normal ?_
          refine wp_ret ?_
          refine then_ret ?_
          exact at_return (S := S_laws_eqManifest) (x := (x0, x1, ())) (false, ()) [] h (by kernel_rfl) trivial (congrArg (fun z => (z, ())) (show (false) = (Sh.eqB s59) x0 x1 from by exact (Sh.eqB_ne (s := s59) (fun e => h4 (congrArg (fun (y : T59) => y.2.2.2.1) e))).symm))
        · replace h4 : x0.2.2.2.1 = x1.2.2.2.1 := of_decide_eq_true (notF h4)
          refine wp_skip ?_
          refine then_normal ?_
          refine wp_seq ?_
          refine wp_seq ?_
          refine at_regq (T := S_laws_eqManifest_tab) [] { ts := [2, 3, 4, 30], os := [1, 2] } [True] gamOK hT h (by kernel_rfl) ⟨trivial, trivial⟩ ?_
          intro a w h
          refine then_normal ?_
          refine at_test (!((Sh.eqB s22) x0.2.2.2.2.1 x1.2.2.2.2.1)) h (by kernel_rfl) (fun h5 => ?_) (fun h5 => ?_)
          · replace h5 : ((Sh.eqB s22) x0.2.2.2.2.1 x1.2.2.2.2.1) = false := notT h5
            refine wp_seq ?_
            refine at_regq (T := S_laws_eqManifest_tab) [] { ts := [2, 3, 4], os := [1, 2] } [] gamOK hT h (by kernel_rfl) trivial ?_
            intro a w h
            refine then_normal ?_
            refine wp_ret ?_
            refine then_ret ?_
            exact at_return (S := S_laws_eqManifest) (x := (x0, x1, ())) (false, ()) [] h (by kernel_rfl) trivial (congrArg (fun z => (z, ())) (show (false) = (Sh.eqB s59) x0 x1 from by exact (Sh.eqB_ne (s := s59) (fun e => Sh.of_eqB_ne h5 (congrArg (fun (y : T59) => y.2.2.2.2.1) e))).symm))
          · replace h5 : ((Sh.eqB s22) x0.2.2.2.2.1 x1.2.2.2.2.1) = true := notF h5
            refine wp_skip ?_
            refine then_normal ?_
            refine wp_seq ?_
            refine wp_seq ?_
            refine at_regq (T := S_laws_eqManifest_tab) [] { ts := [4, 35], os := [] } [] gamOK hT h (by kernel_rfl) trivial ?_
            intro a w h
            refine then_normal ?_
            refine at_test (!decide (x0.2.2.2.2.2 = x1.2.2.2.2.2)) h (by kernel_rfl) (fun h6 => ?_) (fun h6 => ?_)
            · replace h6 : ¬ (x0.2.2.2.2.2 = x1.2.2.2.2.2) := of_decide_eq_false (notT h6)
              refine wp_seq ?_
              refine at_reg (T := S_laws_eqManifest_tab) [] { ts := [4], os := [] } ⟨[(4, aB false)], []⟩ [] gamOK hT h (by kernel_rfl) trivial ?_
              intro a w h
              refine then_normal ?_
              refine wp_ret ?_
              refine then_ret ?_
              exact at_return (S := S_laws_eqManifest) (x := (x0, x1, ())) (false, ()) [] h (by kernel_rfl) trivial (congrArg (fun z => (z, ())) (show (false) = (Sh.eqB s59) x0 x1 from by exact (Sh.eqB_ne (s := s59) (fun e => h6 (congrArg (fun (y : T59) => y.2.2.2.2.2) e))).symm))
            · replace h6 : x0.2.2.2.2.2 = x1.2.2.2.2.2 := of_decide_eq_true (notF h6)
              refine wp_skip ?_
              refine then_normal ?_
              refine wp_seq ?_
              refine at_reg (T := S_laws_eqManifest_tab) [] { ts := [4], os := [] } ⟨[(4, aB true)], []⟩ [] gamOK hT h (by kernel_rfl) trivial ?_
              intro a w h
              refine then_normal ?_
              refine wp_ret ?_
              exact at_return (S := S_laws_eqManifest) (x := (x0, x1, ())) (true, ()) [] h (by kernel_rfl) trivial (congrArg (fun z => (z, ())) (show (true) = (Sh.eqB s59) x0 x1 from by exact ((Sh.eqB_iff s59).2 (Prod.ext h1 (Prod.ext h2 (Prod.ext h3 (Prod.ext h4 (Prod.ext (Sh.of_eqB h5) h6)))))).symm))

def S_laws_heldProofS : Sum := { fid := 102, dom := [s51, (.int 3)], cod := [(.int 3)], dp := true, fz := false, pre := fun x => (pMk s51) x.1 x.2.1, g := fun x => (((heldD s51) x.1 x.2.1), ()) }
def S_laws_heldProofS_tab : List (Nat × Sum) := []
theorem S_laws_heldProofS_ok : FnOK Try.prog 102 S_laws_heldProofS := by
  refine at_enter 40 (fun x => ⟨[(0, aF s159 x.1), (1, aI x.2.1)], []⟩) Try.func102 rfl (by kernel_rfl) (fun x => rfl) ?_
  rintro w0 Z0 ⟨x0, x1, u⟩ a w
  revert x0 x1
  intro (x0 : (List T159)) (x1 : Int) hpre hlens h
  replace h : At w0 Z0 [] 40 ⟨[(0, aF s159 x0), (1, aI x1)], []⟩ a w := h
  replace hpre : (pMk s51) x0 x1 := hpre
  have hl1 : List.length x0 ≤ 9223372036854775807 := hlens.1.1
  have hT : TabOK Try.prog S_laws_heldProofS_tab := .nil
  have hp : 0 ≤ x1 ∧ x1 + ((Sh.ct s51 x0 : Nat) : Int) ≤ 4611686018427387904 := hpre
  have hct0 : Sh.ct s51 x0 = ctL (Sh.ct s159) x0 := rfl
  refine wp_seq ?_
  refine at_regq (T := S_laws_heldProofS_tab) [] { ts := [0, 1, 4], os := [] } [] gamOK hT h (by kernel_rfl) trivial ?_
  intro a w h
  refine then_normal ?_
  refine wp_seq ?_
  refine wp_seq ?_
  refine at_regq (T := S_laws_heldProofS_tab) [] { ts := [0, 1, 4, 5], os := [] } [] gamOK hT h (by kernel_rfl) trivial ?_
  intro a w h
  refine then_normal ?_
  refine wp_block ?_
  replace h := at_out (σ' := ⟨[(0, aF s159 x0), (1, aI x1), (4, aI 0), (5, aI 0)], []⟩) { ts := [0, 1, 4, 5], os := [] } h (by kernel_rfl)
  refine at_loop (fun i : Nat => (⟨[(0, aF s159 x0), (1, aI (x1 + ((ctL (Sh.ct s159) (List.take i x0) : Nat) : Int))), (4, aI 0), (5, aI ((i : Nat) : Int))], []⟩ : St)) (fun i => (i ≤ List.length x0 ∧ mkL (Sh.mk s159) (Sh.ct s159) x1 (x0.take i) = x0.take i)) (fun i => List.length x0 - i) (0) h (st_congr2 (fun (d0 : Int) (d1 : Int) => (⟨[(0, aF s159 x0), (1, aI d0), (4, aI 0), (5, aI d1)], []⟩ : St)) (show (x1 : Int) = (x1 + ((ctL (Sh.ct s159) (List.take (0) x0) : Nat) : Int)) from by first | with_reducible rfl | (simp [ctL]) | rfl) (show (0 : Int) = (((0) : Nat) : Int) from by first | with_reducible rfl | (simp [ctL]) | rfl)) (by exact ⟨Nat.zero_le _, by simp [mkL]⟩) ?_
  intro i a w hok0 h
  refine wp_seq ?_
  refine wp_seq ?_
  refine at_regq (T := S_laws_heldProofS_tab) [] { ts := [0, 1, 4, 5, 9], os := [] } [] gamOK hT h (by kernel_rfl) trivial ?_
  intro a w h
  refine then_normal ?_
  refine at_test (decide (((i : Nat) : Int) < ((List.length x0 : Nat) : Int))) h (by kernel_rfl) (fun h1 => ?_) (fun h1 => ?_)
  · replace h1 : ((i : Nat) : Int) < ((List.length x0 : Nat) : Int) := of_decide_eq_true h1
    have hat := ctL_at_le (c := Sh.ct s159) (xs := x0) (z := (0, (0, 0))) (i := i) (by omega)
    have hsu := ctL_take_succ (c := Sh.ct s159) (xs := x0) (z := (0, (0, 0))) (i := i) (by omega)
    have hci : Sh.ct s159 (x0.getD i (0, (0, 0))) = (1 + (1 + 1)) := rfl
    refine wp_skip ?_
    refine then_normal ?_
    refine wp_seq ?_
    refine wp_block ?_
    refine wp_seq ?_
    refine wp_seq ?_
    refine at_reg (T := S_laws_heldProofS_tab) [] { ts := [0, 1, 4, 5, 18], os := [] } ⟨[(0, aF s159 x0), (1, aI (x1 + ((ctL (Sh.ct s159) (List.take i x0) : Nat) : Int))), (4, aI 0), (5, aI ((i : Nat) : Int)), (18, aB (!decide ((x0.getD i (0, (0, 0))).1 = (x1 + ((ctL (Sh.ct s159) (List.take i x0) : Nat) : Int)))))], []⟩ [(0 : Int) ≤ ((i : Nat) : Int) ∧ ((i : Nat) : Int) < ((List.length x0 : Nat) : Int)] gamOK hT h (by kernel_rfl) ⟨(by refine ⟨?_, ?_⟩ <;> (first | omega | (simp only [List.length_append, List.length_cons, List.length_nil, List.length_set, List.length_take, List.length_drop, List.length_replicate, List.length_map, Nat.min_def]; omega) | (simp; done) | (simp; omega) | done)), trivial⟩ ?_
    intro a w h
    refine then_normal ?_
    refine at_test (!decide ((x0.getD i (0, (0, 0))).1 = (x1 + ((ctL (Sh.ct s159) (List.take i x0) : Nat) : Int)))) h (by kernel_rfl) (fun h2 => ?_) (fun h2 => ?_)
    · replace h2 : ¬ ((x0.getD i (0, (0, 0))).1 = (x1 + ((ctL (Sh.ct s159) (List.take i x0) : Nat) : Int))) := of_decide_eq_false (notT h2)
      refine wp_seq ?_
      refine at_regq (T := S_laws_heldProofS_tab) [] { ts := [0, 1, 4, 5], os := [] } [] gamOK hT h (by kernel_rfl) trivial ?_
      intro a w h
      refine then_normal ?_
      refine wp_ret ?_
      refine then_ret ?_
      refine in_ret ?_
      refine then_ret ?_
      refine then_ret ?_
      refine in_ret ?_
      refine then_ret ?_
      exact at_return (S := S_laws_heldProofS) (x := (x0, x1, ())) ((-1), ()) [] h (by kernel_rfl) trivial (congrArg (fun z => (z, ())) (show ((-1)) = (heldD s51) x0 x1 from by refine (heldD_no (s := s51) (fun e => ?_)).symm; have e2 : (x1 + ((ctL (Sh.ct s159) (List.take i x0) : Nat) : Int)) = (x0.getD i (0, (0, 0))).1 := congrArg (fun (y : T159) => y.1) (mkL_get (z := (0, (0, 0))) (i := i) e (by omega)); omega))
    · replace h2 : (x0.getD i (0, (0, 0))).1 = (x1 + ((ctL (Sh.ct s159) (List.take i x0) : Nat) : Int)) := of_decide_eq_true (notF h2)
      refine wp_skip ?_
      refine then_normal ?_
      refine wp_seq ?_
      refine at_regq (T := S_laws_heldProofS_tab) [{}, { nw := true }] { ts := [0, 1, 4, 5], os := [] } [I64 ((x1 + ((ctL (Sh.ct s159) (List.take i x0) : Nat) : Int)) + 1)] gamOK hT h (by kernel_rfl) ⟨⟨by first | omega | (simp only [List.length_append, List.length_cons, List.length_nil, List.length_set, List.length_take, List.length_drop, List.length_replicate, List.length_map, Nat.min_def]; omega) | (simp; done) | (simp; omega) | done, by first | omega | (simp only [List.length_append, List.length_cons, List.length_nil, List.length_set, List.length_take, List.length_drop, List.length_replicate, List.length_map, Nat.min_def]; omega) | (simp; done) | (simp; omega) | done⟩, trivial⟩ ?_
      intro a w h
      refine then_normal ?_
      refine wp_seq ?_
      refine wp_seq ?_
      refine at_regq (T := S_laws_heldProofS_tab) [] { ts := [0, 1, 4, 5, 27], os := [] } [(0 : Int) ≤ ((i : Nat) : Int) ∧ ((i : Nat) : Int) < ((List.length x0 : Nat) : Int)] gamOK hT h (by kernel_rfl) ⟨(by refine ⟨?_, ?_⟩ <;> (first | omega | (simp only [List.length_append, List.length_cons, List.length_nil, List.length_set, List.length_take, List.length_drop, List.length_replicate, List.length_map, Nat.min_def]; omega) | (simp; done) | (simp; omega) | done)), trivial⟩ ?_
      intro a w h
      refine then_normal ?_
      refine at_test (!decide ((x0.getD i (0, (0, 0))).2.1 = (x1 + ((ctL (Sh.ct s159) (List.take i x0) : Nat) : Int)) + 1)) h (by kernel_rfl) (fun h3 => ?_) (fun h3 => ?_)
      · replace h3 : ¬ ((x0.getD i (0, (0, 0))).2.1 = (x1 + ((ctL (Sh.ct s159) (List.take i x0) : Nat) : Int)) + 1) := of_decide_eq_false (notT h3)
        refine wp_seq ?_
        refine at_regq (T := S_laws_heldProofS_tab) [] { ts := [0, 1, 4, 5], os := [] } [] gamOK hT h (by kernel_rfl) trivial ?_
        intro a w h
        refine then_normal ?_
        refine wp_ret ?_
        refine then_ret ?_
        refine in_ret ?_
        refine then_ret ?_
        refine then_ret ?_
        refine in_ret ?_
        refine then_ret ?_
        exact at_return (S := S_laws_heldProofS) (x := (x0, x1, ())) ((-1), ()) [] h (by kernel_rfl) trivial (congrArg (fun z => (z, ())) (show ((-1)) = (heldD s51) x0 x1 from by refine (heldD_no (s := s51) (fun e => ?_)).symm; have e2 : (x1 + ((ctL (Sh.ct s159) (List.take i x0) : Nat) : Int)) + ((1 : Nat) : Int) = (x0.getD i (0, (0, 0))).2.1 := congrArg (fun (y : T159) => y.2.1) (mkL_get (z := (0, (0, 0))) (i := i) e (by omega)); omega))
      · replace h3 : (x0.getD i (0, (0, 0))).2.1 = (x1 + ((ctL (Sh.ct s159) (List.take i x0) : Nat) : Int)) + 1 := of_decide_eq_true (notF h3)
        refine wp_skip ?_
        refine then_normal ?_
        refine wp_seq ?_
        refine at_regq (T := S_laws_heldProofS_tab) [{}, { nw := true }] { ts := [0, 1, 4, 5], os := [] } [I64 (((x1 + ((ctL (Sh.ct s159) (List.take i x0) : Nat) : Int)) + 1) + 1)] gamOK hT h (by kernel_rfl) ⟨⟨by first | omega | (simp only [List.length_append, List.length_cons, List.length_nil, List.length_set, List.length_take, List.length_drop, List.length_replicate, List.length_map, Nat.min_def]; omega) | (simp; done) | (simp; omega) | done, by first | omega | (simp only [List.length_append, List.length_cons, List.length_nil, List.length_set, List.length_take, List.length_drop, List.length_replicate, List.length_map, Nat.min_def]; omega) | (simp; done) | (simp; omega) | done⟩, trivial⟩ ?_
        intro a w h
        refine then_normal ?_
        refine wp_seq ?_
        refine wp_seq ?_
        refine at_reg (T := S_laws_heldProofS_tab) [] { ts := [0, 1, 4, 5, 36], os := [] } ⟨[(0, aF s159 x0), (1, aI (((x1 + ((ctL (Sh.ct s159) (List.take i x0) : Nat) : Int)) + 1) + 1)), (4, aI 0), (5, aI ((i : Nat) : Int)), (36, aB (!decide ((x0.getD i (0, (0, 0))).2.2 = ((x1 + ((ctL (Sh.ct s159) (List.take i x0) : Nat) : Int)) + 1) + 1)))], []⟩ [(0 : Int) ≤ ((i : Nat) : Int) ∧ ((i : Nat) : Int) < ((List.length x0 : Nat) : Int)] gamOK hT h (by kernel_rfl) ⟨(by refine ⟨?_, ?_⟩ <;> (first | omega | (simp only [List.length_append, List.length_cons, List.length_nil, List.length_set, List.length_take, List.length_drop, List.length_replicate, List.length_map, Nat.min_def]; omega) | (simp; done) | (simp; omega) | done)), trivial⟩ ?_
        intro a w h
        refine then_normal ?_
        refine at_test (!decide ((x0.getD i (0, (0, 0))).2.2 = ((x1 + ((ctL (Sh.ct s159) (List.take i x0) : Nat) : Int)) + 1) + 1)) h (by kernel_rfl) (fun h4 => ?_) (fun h4 => ?_)
        · replace h4 : ¬ ((x0.getD i (0, (0, 0))).2.2 = ((x1 + ((ctL (Sh.ct s159) (List.take i x0) : Nat) : Int)) + 1) + 1) := of_decide_eq_false (notT h4)
          refine wp_seq ?_
          refine at_regq (T := S_laws_heldProofS_tab) [] { ts := [0, 1, 4, 5], os := [] } [] gamOK hT h (by kernel_rfl) trivial ?_
          intro a w h
          refine then_normal ?_
          refine wp_ret ?_
          refine then_ret ?_
          refine in_ret ?_
          refine then_ret ?_
          refine then_ret ?_
          refine in_ret ?_
          refine then_ret ?_
          exact at_return (S := S_laws_heldProofS) (x := (x0, x1, ())) ((-1), ()) [] h (by kernel_rfl) trivial (congrArg (fun z => (z, ())) (show ((-1)) = (heldD s51) x0 x1 from by refine (heldD_no (s := s51) (fun e => ?_)).symm; have e2 : (x1 + ((ctL (Sh.ct s159) (List.take i x0) : Nat) : Int)) + ((1 : Nat) : Int) + ((1 : Nat) : Int) = (x0.getD i (0, (0, 0))).2.2 := congrArg (fun (y : T159) => y.2.2) (mkL_get (z := (0, (0, 0))) (i := i) e (by omega)); omega))
        · replace h4 : (x0.getD i (0, (0, 0))).2.2 = ((x1 + ((ctL (Sh.ct s159) (List.take i x0) : Nat) : Int)) + 1) + 1 := of_decide_eq_true (notF h4)
          refine wp_skip ?_
          refine then_normal ?_
          refine at_regq (T := S_laws_heldProofS_tab) [{}, { nw := true }] { ts := [0, 1, 4, 5], os := [] } [I64 ((((x1 + ((ctL (Sh.ct s159) (List.take i x0) : Nat) : Int)) + 1) + 1) + 1)] gamOK hT h (by kernel_rfl) ⟨⟨by first | omega | (simp only [List.length_append, List.length_cons, List.length_nil, List.length_set, List.length_take, List.length_drop, List.length_replicate, List.length_map, Nat.min_def]; omega) | (simp; done) | (simp; omega) | done, by first | omega | (simp only [List.length_append, List.length_cons, List.length_nil, List.length_set, List.length_take, List.length_drop, List.length_replicate, List.length_map, Nat.min_def]; omega) | (simp; done) | (simp; omega) | done⟩, trivial⟩ ?_
          intro a w h
          refine in_normal ?_
          refine then_normal ?_
          refine at_regq (T := S_laws_heldProofS_tab) [{}, { nw := true }] { ts := [0, 1, 4, 5], os := [] } [I64 (((i : Nat) : Int) + 1)] gamOK hT h (by kernel_rfl) ⟨⟨by first | omega | (simp only [List.length_append, List.length_cons, List.length_nil, List.length_set, List.length_take, List.length_drop, List.length_replicate, List.length_map, Nat.min_def]; omega) | (simp; done) | (simp; omega) | done, by first | omega | (simp only [List.length_append, List.length_cons, List.length_nil, List.length_set, List.length_take, List.length_drop, List.length_replicate, List.length_map, Nat.min_def]; omega) | (simp; done) | (simp; omega) | done⟩, trivial⟩ ?_
          intro a w h
          replace h := at_out (σ' := ⟨[(0, aF s159 x0), (1, aI ((((x1 + ((ctL (Sh.ct s159) (List.take i x0) : Nat) : Int)) + 1) + 1) + 1)), (4, aI 0), (5, aI (((i : Nat) : Int) + 1))], []⟩) { ts := [0, 1, 4, 5], os := [] } h (by kernel_rfl)
          exact ⟨i + 1, at_eq h (st_congr2 (fun (d0 : Int) (d1 : Int) => (⟨[(0, aF s159 x0), (1, aI d0), (4, aI 0), (5, aI d1)], []⟩ : St)) (show ((((x1 + ((ctL (Sh.ct s159) (List.take i x0) : Nat) : Int)) + 1) + 1) + 1 : Int) = (x1 + ((ctL (Sh.ct s159) (List.take (i + 1) x0) : Nat) : Int)) from by first | with_reducible rfl | (omega) | rfl) (show (((i : Nat) : Int) + 1 : Int) = (((i + 1) : Nat) : Int) from by first | with_reducible rfl | (omega) | rfl)), (by exact ⟨by omega, mkL_step (z := (0, (0, 0))) (by omega) hok0.2 (Prod.ext (by show ((x1 + ((ctL (Sh.ct s159) (List.take i x0) : Nat) : Int)) : Int) = (x0.getD i (0, (0, 0))).1; omega) (Prod.ext (by show ((x1 + ((ctL (Sh.ct s159) (List.take i x0) : Nat) : Int)) + ((1 : Nat) : Int) : Int) = (x0.getD i (0, (0, 0))).2.1; omega) (by show ((x1 + ((ctL (Sh.ct s159) (List.take i x0) : Nat) : Int)) + ((1 : Nat) : Int) + ((1 : Nat) : Int) : Int) = (x0.getD i (0, (0, 0))).2.2; omega)))⟩), (by omega)⟩
  · replace h1 : ¬ (((i : Nat) : Int) < ((List.length x0 : Nat) : Int)) := of_decide_eq_false h1
    refine wp_exit ?_
    refine then_exit ?_
    refine then_exit ?_
    refine in_hit ?_
    refine then_normal ?_
    refine wp_seq ?_
    refine at_reg (T := S_laws_heldProofS_tab) [] { ts := [4], os := [] } ⟨[(4, aI (x1 + ((ctL (Sh.ct s159) (List.take i x0) : Nat) : Int)))], []⟩ [] gamOK hT h (by kernel_rfl) trivial ?_
    intro a w h
    refine then_normal ?_
    refine wp_ret ?_
    exact at_return (S := S_laws_heldProofS) (x := (x0, x1, ())) ((x1 + ((ctL (Sh.ct s159) (List.take i x0) : Nat) : Int)), ()) [] h (by kernel_rfl) trivial (congrArg (fun z => (z, ())) (show ((x1 + ((ctL (Sh.ct s159) (List.take i x0) : Nat) : Int))) = (heldD s51) x0 x1 from by have e := hok0.2; rw [take_all (by omega)] at e; rw [heldD_pos (s := s51) e, hct0, take_all (by omega)]))

def S_laws_heldLedger : Sum := { fid := 35, dom := [s53, (.int 3)], cod := [(.int 3)], dp := true, fz := false, pre := fun x => (pMkT s53) x.1 x.2.1, g := fun x => (((heldDT s53) x.1 x.2.1), ()) }
def S_laws_heldLedger_tab : List (Nat × Sum) := [(102, S_laws_heldProofS)]
theorem S_laws_heldLedger_ok : FnOK Try.prog 35 S_laws_heldLedger := by
  refine at_enter 12 (fun x => ⟨[(0, aG [.ro s159 x.1]), (1, aI x.2.1)], []⟩) Try.func35 rfl (by kernel_rfl) (fun x => rfl) ?_
  rintro w0 Z0 ⟨x0, x1, u⟩ a w
  revert x0 x1
  intro (x0 : (List T159)) (x1 : Int) hpre hlens h
  replace h : At w0 Z0 [] 12 ⟨[(0, aG [.ro s159 x0]), (1, aI x1)], []⟩ a w := h
  replace hpre : (pMkT s53) x0 x1 := hpre
  have hl1 : List.length x0 ≤ 9223372036854775807 := hlens.1.1
  have hT : TabOK Try.prog S_laws_heldLedger_tab := (.cons S_laws_heldProofS_ok .nil)
  have hp : 0 ≤ x1 ∧ x1 + ((Sh.ctT s53 x0 : Nat) : Int) ≤ 4611686018427387904 := hpre
  have hct0 : Sh.ctT s53 x0 = (Sh.ct s51 x0) := rfl
  refine wp_seq ?_
  refine at_regq (T := S_laws_heldLedger_tab) [{ ids := [1] }] { ts := [1, 2, 4], os := [1] } [] gamOK hT h (by kernel_rfl) trivial ?_
  intro a w h
  refine then_normal ?_
  refine wp_seq ?_
  refine at_regq (T := S_laws_heldLedger_tab) [] { ts := [1, 4], os := [] } [(pMk s51) x0 x1] gamOK hT h (by kernel_rfl) ⟨(by (first | (show (0 : Int) ≤ _ ∧ _ + ((Sh.ct _ _ : Nat) : Int) ≤ (4611686018427387904 : Int); constructor <;> omega) | (show (0 : Int) ≤ _ ∧ _ + ((Sh.ctT _ _ : Nat) : Int) ≤ (4611686018427387904 : Int); constructor <;> omega))), trivial⟩ ?_
  intro a w h
  refine then_normal ?_
  refine wp_seq ?_
  refine wp_seq ?_
  refine at_regq (T := S_laws_heldLedger_tab) [] { ts := [1, 4, 10], os := [] } [] gamOK hT h (by kernel_rfl) trivial ?_
  intro a w h
  refine then_normal ?_
  refine at_test (decide (((heldD s51) x0 x1) < 0)) h (by kernel_rfl) (fun h1 => ?_) (fun h1 => ?_)
  · replace h1 : ((heldD s51) x0 x1) < 0 := of_decide_eq_true h1
    have hvh1 := heldD_neg (by omega) h1
    refine wp_seq ?_
    refine at_reg (T := S_laws_heldLedger_tab) [] { ts := [1, 4], os := [] } ⟨[(1, aI ((heldD s51) x0 x1)), (4, aI (-1))], []⟩ [] gamOK hT h (by kernel_rfl) trivial ?_
    intro a w h
    refine then_normal ?_
    refine wp_ret ?_
    refine then_ret ?_
    exact at_return (S := S_laws_heldLedger) (x := (x0, x1, ())) ((-1), ()) [] h (by kernel_rfl) trivial (congrArg (fun z => (z, ())) (show ((-1)) = (heldDT s53) x0 x1 from by refine (heldDT_no (s := s53) (fun e => ?_)).symm; have e2 : Sh.mk s51 x0 (x1) = x0 := e; exact hvh1 ((congrArg (fun k => Sh.mk s51 x0 k) (show (_ : Int) = x1 from by first | rfl | omega)).trans e2)))
  · replace h1 : ¬ (((heldD s51) x0 x1) < 0) := of_decide_eq_false h1
    have hvh1 := heldD_val h1
    refine wp_skip ?_
    refine then_normal ?_
    refine wp_seq ?_
    refine at_reg (T := S_laws_heldLedger_tab) [] { ts := [4], os := [] } ⟨[(4, aI ((heldD s51) x0 x1))], []⟩ [] gamOK hT h (by kernel_rfl) trivial ?_
    intro a w h
    refine then_normal ?_
    refine wp_ret ?_
    exact at_return (S := S_laws_heldLedger) (x := (x0, x1, ())) (((heldD s51) x0 x1), ()) [] h (by kernel_rfl) trivial (congrArg (fun z => (z, ())) (show (((heldD s51) x0 x1)) = (heldDT s53) x0 x1 from by rw [heldDT_pos (s := s53) (show Sh.mkT s53 x0 x1 = x0 from ((congrArg (fun k => Sh.mk s51 x0 k) (show (x1 : Int) = _ from by first | rfl | omega)).trans hvh1.1))]; omega))

def S_laws_markIntS : Sum := { fid := 101, dom := [s22, (.int 3)], cod := [(.int 3)], dp := true, fz := false, pre := fun x => (pMk s22) x.1 x.2.1, g := fun x => (((mkK s22) x.1 x.2.1), ()), kinds := [.io, .rd], upd := fun x => ((Sh.mk s22) x.1 x.2.1, (x.2.1, ())) }
def S_laws_markIntS_tab : List (Nat × Sum) := []
theorem S_laws_markIntS_ok : FnOK Try.prog 101 S_laws_markIntS := by
  refine at_enterI 19 [1] [2] (fun us x => ⟨[(0, aS 1), (1, aI x.2.1)], [(1, oR (.int 3) x.1), (2, oP 1 (S_laws_markIntS.hd us 0))]⟩) Try.func101 rfl (by kernel_rfl) (fun us x => rfl) ?_
  rintro w0 Z0 us ⟨x0, x1, u⟩ L a w
  revert x0 x1
  intro (x0 : (List Int)) (x1 : Int) hio hpre hlens h
  replace h : At w0 Z0 L 19 ⟨[(0, aS 1), (1, aI x1)], [(1, oR (.int 3) x0), (2, oP 1 (S_laws_markIntS.hd us 0))]⟩ a w := h
  replace hpre : (pMk s22) x0 x1 := hpre
  have hl1 : List.length x0 ≤ 9223372036854775807 := hlens.1.1
  have hT : TabOK Try.prog S_laws_markIntS_tab := .nil
  have hp : 0 ≤ x1 ∧ x1 + ((Sh.ct s22 x0 : Nat) : Int) ≤ 4611686018427387904 := hpre
  have hct0 : Sh.ct s22 x0 = ctL (Sh.ct (.int 3)) x0 := rfl
  refine wp_seq ?_
  refine at_regq (T := S_laws_markIntS_tab) [] { ts := [0, 1, 4], os := [1, 2] } [] gamOK hT h (by kernel_rfl) trivial ?_
  intro a w h
  refine then_normal ?_
  refine wp_seq ?_
  refine wp_seq ?_
  refine at_regq (T := S_laws_markIntS_tab) [] { ts := [0, 1, 4, 5], os := [1, 2] } [] gamOK hT h (by kernel_rfl) trivial ?_
  intro a w h
  refine then_normal ?_
  refine wp_block ?_
  replace h := at_out (σ' := ⟨[(0, aS 1), (1, aI x1), (4, aI 0), (5, aI 0)], [(1, oR (.int 3) x0), (2, oP 1 (S_laws_markIntS.hd us 0))]⟩) { ts := [0, 1, 4, 5], os := [1, 2] } h (by kernel_rfl)
  refine at_loop (fun i : Nat => (⟨[(0, aS 1), (1, aI (x1 + ((ctL (Sh.ct (.int 3)) (List.take i x0) : Nat) : Int))), (4, aI 0), (5, aI ((i : Nat) : Int))], [(1, oR (.int 3) (mkAt (Sh.mk (.int 3)) (Sh.ct (.int 3)) x1 x0 i)), (2, oP 1 (S_laws_markIntS.hd us 0))]⟩ : St)) (fun i => i ≤ List.length x0) (fun i => List.length x0 - i) (0) h (st_congr3 (fun (d0 : List Int) (d1 : Int) (d2 : Int) => (⟨[(0, aS 1), (1, aI d1), (4, aI 0), (5, aI d2)], [(1, oR (.int 3) d0), (2, oP 1 (S_laws_markIntS.hd us 0))]⟩ : St)) (show (x0 : List Int) = (mkAt (Sh.mk (.int 3)) (Sh.ct (.int 3)) x1 x0 (0)) from by first | with_reducible rfl | (first | exact mkAt_zero.symm | simp [ctL]) | rfl) (show (x1 : Int) = (x1 + ((ctL (Sh.ct (.int 3)) (List.take (0) x0) : Nat) : Int)) from by first | with_reducible rfl | (first | exact mkAt_zero.symm | simp [ctL]) | rfl) (show (0 : Int) = (((0) : Nat) : Int) from by first | with_reducible rfl | (first | exact mkAt_zero.symm | simp [ctL]) | rfl)) (by omega) ?_
  intro i a w hok0 h
  refine wp_seq ?_
  refine wp_seq ?_
  refine at_regq (T := S_laws_markIntS_tab) [] { ts := [0, 1, 4, 5, 9], os := [1, 2] } [] gamOK hT h (by kernel_rfl) trivial ?_
  intro a w h
  refine then_normal ?_
  refine at_test (decide (((i : Nat) : Int) < ((List.length (mkAt (Sh.mk (.int 3)) (Sh.ct (.int 3)) x1 x0 i) : Nat) : Int))) h (by kernel_rfl) (fun h1 => ?_) (fun h1 => ?_)
  · replace h1 : ((i : Nat) : Int) < ((List.length (mkAt (Sh.mk (.int 3)) (Sh.ct (.int 3)) x1 x0 i) : Nat) : Int) := of_decide_eq_true h1
    have hml : List.length (mkAt (Sh.mk (.int 3)) (Sh.ct (.int 3)) x1 x0 i) = List.length x0 := mkAt_len
    rw [hml] at h1
    have hat := ctL_at_le (c := Sh.ct (.int 3)) (xs := x0) (z := 0) (i := i) (by omega)
    have hsu := ctL_take_succ (c := Sh.ct (.int 3)) (xs := x0) (z := 0) (i := i) (by omega)
    have hci : Sh.ct (.int 3) (x0.getD i 0) = 1 := rfl
    have hge : List.getD (mkAt (Sh.mk (.int 3)) (Sh.ct (.int 3)) x1 x0 i) i 0 = (x0.getD i 0) := mkAt_get (by omega)
    refine wp_skip ?_
    refine then_normal ?_
    refine wp_seq ?_
    refine wp_block ?_
    refine wp_seq ?_
    refine at_reg (T := S_laws_markIntS_tab) [] { ts := [0, 1, 4, 5], os := [1, 2] } ⟨[(0, aS 1), (1, aI (x1 + ((ctL (Sh.ct (.int 3)) (List.take i x0) : Nat) : Int))), (4, aI 0), (5, aI ((i : Nat) : Int))], [(1, oR (.int 3) (List.set (mkAt (Sh.mk (.int 3)) (Sh.ct (.int 3)) x1 x0 i) i (x1 + ((ctL (Sh.ct (.int 3)) (List.take i x0) : Nat) : Int)))), (2, oP 1 (S_laws_markIntS.hd us 0))]⟩ [(0 : Int) ≤ ((i : Nat) : Int) ∧ ((i : Nat) : Int) < ((List.length (mkAt (Sh.mk (.int 3)) (Sh.ct (.int 3)) x1 x0 i) : Nat) : Int), i < List.length (mkAt (Sh.mk (.int 3)) (Sh.ct (.int 3)) x1 x0 i)] gamOK hT h (by kernel_rfl) ⟨(by refine ⟨?_, ?_⟩ <;> (first | omega | ((try simp only [hge, mkK]); omega) | (simp only [List.length_append, List.length_cons, List.length_nil, List.length_set, List.length_take, List.length_drop, List.length_replicate, List.length_map, Nat.min_def, mkAt_len]; omega) | (simp; done) | (simp; omega))), (by first | omega | ((try simp only [hge, mkK]); omega) | (simp only [List.length_append, List.length_cons, List.length_nil, List.length_set, List.length_take, List.length_drop, List.length_replicate, List.length_map, Nat.min_def, mkAt_len]; omega) | (simp; done) | (simp; omega)), trivial⟩ ?_
    intro a w h
    refine then_normal ?_
    refine at_regq (T := S_laws_markIntS_tab) [{}, { nw := true }] { ts := [0, 1, 4, 5], os := [1, 2] } [I64 ((x1 + ((ctL (Sh.ct (.int 3)) (List.take i x0) : Nat) : Int)) + 1)] gamOK hT h (by kernel_rfl) ⟨⟨by first | omega | ((try simp only [hge, mkK]); omega) | (simp only [List.length_append, List.length_cons, List.length_nil, List.length_set, List.length_take, List.length_drop, List.length_replicate, List.length_map, Nat.min_def, mkAt_len]; omega) | (simp; done) | (simp; omega), by first | omega | ((try simp only [hge, mkK]); omega) | (simp only [List.length_append, List.length_cons, List.length_nil, List.length_set, List.length_take, List.length_drop, List.length_replicate, List.length_map, Nat.min_def, mkAt_len]; omega) | (simp; done) | (simp; omega)⟩, trivial⟩ ?_
    intro a w h
    refine in_normal ?_
    refine then_normal ?_
    refine at_regq (T := S_laws_markIntS_tab) [{}, { nw := true }] { ts := [0, 1, 4, 5], os := [1, 2] } [I64 (((i : Nat) : Int) + 1)] gamOK hT h (by kernel_rfl) ⟨⟨by first | omega | ((try simp only [hge, mkK]); omega) | (simp only [List.length_append, List.length_cons, List.length_nil, List.length_set, List.length_take, List.length_drop, List.length_replicate, List.length_map, Nat.min_def, mkAt_len]; omega) | (simp; done) | (simp; omega), by first | omega | ((try simp only [hge, mkK]); omega) | (simp only [List.length_append, List.length_cons, List.length_nil, List.length_set, List.length_take, List.length_drop, List.length_replicate, List.length_map, Nat.min_def, mkAt_len]; omega) | (simp; done) | (simp; omega)⟩, trivial⟩ ?_
    intro a w h
    replace h := at_out (σ' := ⟨[(0, aS 1), (1, aI ((x1 + ((ctL (Sh.ct (.int 3)) (List.take i x0) : Nat) : Int)) + 1)), (4, aI 0), (5, aI (((i : Nat) : Int) + 1))], [(1, oR (.int 3) (List.set (mkAt (Sh.mk (.int 3)) (Sh.ct (.int 3)) x1 x0 i) i (x1 + ((ctL (Sh.ct (.int 3)) (List.take i x0) : Nat) : Int)))), (2, oP 1 (S_laws_markIntS.hd us 0))]⟩) { ts := [0, 1, 4, 5], os := [1, 2] } h (by kernel_rfl)
    skip
    exact ⟨i + 1, at_eq h (st_congr3 (fun (d0 : List Int) (d1 : Int) (d2 : Int) => (⟨[(0, aS 1), (1, aI d1), (4, aI 0), (5, aI d2)], [(1, oR (.int 3) d0), (2, oP 1 (S_laws_markIntS.hd us 0))]⟩ : St)) (show ((List.set (mkAt (Sh.mk (.int 3)) (Sh.ct (.int 3)) x1 x0 i) i (x1 + ((ctL (Sh.ct (.int 3)) (List.take i x0) : Nat) : Int))) : List Int) = (mkAt (Sh.mk (.int 3)) (Sh.ct (.int 3)) x1 x0 (i + 1)) from by first | with_reducible rfl | (refine mkAt_set' (z := 0) (by omega) ?_; first | (simp only [hge, mkK]; done) | ((try simp only [hge, mkK]); show _ = Sh.mk (.int 3) (x0.getD i 0) _; exact (by show (_ : Int) = _; first | rfl | omega))) | rfl) (show ((x1 + ((ctL (Sh.ct (.int 3)) (List.take i x0) : Nat) : Int)) + 1 : Int) = (x1 + ((ctL (Sh.ct (.int 3)) (List.take (i + 1) x0) : Nat) : Int)) from by first | with_reducible rfl | (((try simp only [hge, mkK]); omega)) | rfl) (show (((i : Nat) : Int) + 1 : Int) = (((i + 1) : Nat) : Int) from by first | with_reducible rfl | (omega) | rfl)), (by first | omega | (refine ⟨?_, ?_⟩ <;> omega)), (by omega)⟩
  · replace h1 : ¬ (((i : Nat) : Int) < ((List.length (mkAt (Sh.mk (.int 3)) (Sh.ct (.int 3)) x1 x0 i) : Nat) : Int)) := of_decide_eq_false h1
    have hml : List.length (mkAt (Sh.mk (.int 3)) (Sh.ct (.int 3)) x1 x0 i) = List.length x0 := mkAt_len
    rw [hml] at h1
    refine wp_exit ?_
    refine then_exit ?_
    refine then_exit ?_
    refine in_hit ?_
    refine then_normal ?_
    refine wp_seq ?_
    refine at_reg (T := S_laws_markIntS_tab) [] { ts := [4], os := [1, 2] } ⟨[(4, aI (x1 + ((ctL (Sh.ct (.int 3)) (List.take i x0) : Nat) : Int)))], [(1, oR (.int 3) (mkAt (Sh.mk (.int 3)) (Sh.ct (.int 3)) x1 x0 i)), (2, oP 1 (S_laws_markIntS.hd us 0))]⟩ [] gamOK hT h (by kernel_rfl) trivial ?_
    intro a w h
    refine then_normal ?_
    refine wp_ret ?_
    exact at_returnI (S := S_laws_markIntS) (x := (x0, x1, ())) [1] [2] ((mkAt (Sh.mk (.int 3)) (Sh.ct (.int 3)) x1 x0 i), (x1, ())) (some ((x1 + ((ctL (Sh.ct (.int 3)) (List.take i x0) : Nat) : Int)), ())) [S_laws_markIntS.hd us 0 = S_laws_markIntS.hd us 0] hio h (by kernel_rfl) ⟨rfl, trivial⟩ (by first | rfl | exact congrArg (fun (z : (List Int)) => (z, (x1, ()))) (show ((mkAt (Sh.mk (.int 3)) (Sh.ct (.int 3)) x1 x0 i) : (List Int)) = (Sh.mk s22) x0 x1 from by exact mkAt_all (by omega))) (fun z e => (Option.some.inj e) ▸ (congrArg (fun z => (z, ())) (show ((x1 + ((ctL (Sh.ct (.int 3)) (List.take i x0) : Nat) : Int))) = (mkK s22) x0 x1 from by (unfold mkK; rw [take_all (by omega)]; rfl))))

def S_laws_markCodedPacket : Sum := { fid := 61, dom := [s61, (.int 3)], cod := [(.int 3)], dp := true, fz := false, pre := fun x => (pMkT s61) x.1 x.2.1, g := fun x => (((mkKT s61) x.1 x.2.1), ()), kinds := [.io, .rd], upd := fun x => ((Sh.mkT s61) x.1 x.2.1, (x.2.1, ())) }
def S_laws_markCodedPacket_tab : List (Nat × Sum) := [(101, S_laws_markIntS)]
theorem S_laws_markCodedPacket_ok : FnOK Try.prog 61 S_laws_markCodedPacket := by
  refine at_enterI 14 [1, 2] [3, 4] (fun us x => ⟨[(0, aG [cI x.1.1, .sl 1, .sl 2]), (1, aI x.2.1)], [(1, oR (.int 3) x.1.2.1), (2, oR (.int 3) x.1.2.2), (3, oP 1 (S_laws_markCodedPacket.hd us 0)), (4, oP 2 (S_laws_markCodedPacket.hd us 1))]⟩) Try.func61 rfl (by kernel_rfl) (fun us x => rfl) ?_
  rintro w0 Z0 us ⟨x0, x1, u⟩ L a w
  revert x0 x1
  intro (x0 : T61) (x1 : Int) hio hpre hlens h
  replace h : At w0 Z0 L 14 ⟨[(0, aG [cI x0.1, .sl 1, .sl 2]), (1, aI x1)], [(1, oR (.int 3) x0.2.1), (2, oR (.int 3) x0.2.2), (3, oP 1 (S_laws_markCodedPacket.hd us 0)), (4, oP 2 (S_laws_markCodedPacket.hd us 1))]⟩ a w := h
  replace hpre : (pMkT s61) x0 x1 := hpre
  have hl1 : List.length x0.2.1 ≤ 9223372036854775807 := hlens.1.2.1.1
  have hl2 : List.length x0.2.2 ≤ 9223372036854775807 := hlens.1.2.2.1
  have hT : TabOK Try.prog S_laws_markCodedPacket_tab := (.cons S_laws_markIntS_ok .nil)
  have hp : 0 ≤ x1 ∧ x1 + ((Sh.ctT s61 x0 : Nat) : Int) ≤ 4611686018427387904 := hpre
  have hct0 : Sh.ctT s61 x0 = (0 + ((Sh.ct s22 x0.2.1) + (Sh.ct s22 x0.2.2))) := rfl
  refine wp_seq ?_
  refine at_regq (T := S_laws_markCodedPacket_tab) [{ ids := [5] }] { ts := [1, 2, 4], os := [1, 2, 3, 4, 5] } [] gamOK hT h (by kernel_rfl) trivial ?_
  intro a w h
  refine then_normal ?_
  refine wp_seq ?_
  refine at_regq (T := S_laws_markCodedPacket_tab) [] { ts := [1, 2, 4], os := [1, 2, 3, 4, 5] } [(pMk s22) x0.2.1 x1] gamOK hT h (by kernel_rfl) ⟨(by (first | (show (0 : Int) ≤ _ ∧ _ + ((Sh.ct _ _ : Nat) : Int) ≤ (4611686018427387904 : Int); (try simp only [mkK, mkKT]); constructor <;> omega) | (show (0 : Int) ≤ _ ∧ _ + ((Sh.ctT _ _ : Nat) : Int) ≤ (4611686018427387904 : Int); (try simp only [mkK, mkKT]); constructor <;> omega))), trivial⟩ ?_
  intro a w h
  refine then_normal ?_
  refine wp_seq ?_
  refine at_regq (T := S_laws_markCodedPacket_tab) [] { ts := [1, 4], os := [1, 2, 3, 4] } [(pMk s22) x0.2.2 ((mkK s22) x0.2.1 x1)] gamOK hT h (by kernel_rfl) ⟨(by (first | (show (0 : Int) ≤ _ ∧ _ + ((Sh.ct _ _ : Nat) : Int) ≤ (4611686018427387904 : Int); (try simp only [mkK, mkKT]); constructor <;> omega) | (show (0 : Int) ≤ _ ∧ _ + ((Sh.ctT _ _ : Nat) : Int) ≤ (4611686018427387904 : Int); (try simp only [mkK, mkKT]); constructor <;> omega))), trivial⟩ ?_
  intro a w h
  refine then_normal ?_
  refine wp_seq ?_
  refine at_reg (T := S_laws_markCodedPacket_tab) [] { ts := [4], os := [1, 2, 3, 4] } ⟨[(4, aI ((mkK s22) x0.2.2 ((mkK s22) x0.2.1 x1)))], [(1, oR (.int 3) ((Sh.mk s22) x0.2.1 x1)), (2, oR (.int 3) ((Sh.mk s22) x0.2.2 ((mkK s22) x0.2.1 x1))), (3, oP 1 (S_laws_markCodedPacket.hd us 0)), (4, oP 2 (S_laws_markCodedPacket.hd us 1))]⟩ [] gamOK hT h (by kernel_rfl) trivial ?_
  intro a w h
  refine then_normal ?_
  refine wp_ret ?_
  exact at_returnI (S := S_laws_markCodedPacket) (x := (x0, x1, ())) [1, 2] [3, 4] ((x0.1, (((Sh.mk s22) x0.2.1 x1), ((Sh.mk s22) x0.2.2 ((mkK s22) x0.2.1 x1)))), (x1, ())) (some (((mkK s22) x0.2.2 ((mkK s22) x0.2.1 x1)), ())) [S_laws_markCodedPacket.hd us 0 = S_laws_markCodedPacket.hd us 0, S_laws_markCodedPacket.hd us 1 = S_laws_markCodedPacket.hd us 1] hio h (by kernel_rfl) ⟨rfl, rfl, trivial⟩ (by first | rfl | exact congrArg (fun (z : T61) => (z, (x1, ()))) (show ((x0.1, (((Sh.mk s22) x0.2.1 x1), ((Sh.mk s22) x0.2.2 ((mkK s22) x0.2.1 x1)))) : T61) = (Sh.mkT s61) x0 x1 from by show _ = Sh.mkT s61 x0 x1; exact (Prod.ext rfl (Prod.ext (congrArg (fun k => Sh.mk s22 x0.2.1 k) (show (_ : Int) = x1 + ((0 : Nat) : Int) from by first | rfl | ((try simp only [mkK, mkKT]); omega))) (congrArg (fun k => Sh.mk s22 x0.2.2 k) (show (_ : Int) = x1 + ((0 : Nat) : Int) + (((Sh.ct s22 x0.2.1) : Nat) : Int) from by first | rfl | ((try simp only [mkK, mkKT]); omega))))))) (fun z e => (Option.some.inj e) ▸ (congrArg (fun z => (z, ())) (show (((mkK s22) x0.2.2 ((mkK s22) x0.2.1 x1))) = (mkKT s61) x0 x1 from by ((try simp only [mkK, mkKT]); omega))))

def S_laws_markHashKey : Sum := { fid := 32, dom := [s57, (.int 3)], cod := [(.int 3)], dp := true, fz := false, pre := fun x => (pMkT s57) x.1 x.2.1, g := fun x => (((mkKT s57) x.1 x.2.1), ()), kinds := [.io, .rd], upd := fun x => ((Sh.mkT s57) x.1 x.2.1, (x.2.1, ())) }
def S_laws_markHashKey_tab : List (Nat × Sum) := [(101, S_laws_markIntS)]
theorem S_laws_markHashKey_ok : FnOK Try.prog 32 S_laws_markHashKey := by
  refine at_enterI 10 [1] [2] (fun us x => ⟨[(0, aG [.sl 1]), (1, aI x.2.1)], [(1, oR (.int 3) x.1), (2, oP 1 (S_laws_markHashKey.hd us 0))]⟩) Try.func32 rfl (by kernel_rfl) (fun us x => rfl) ?_
  rintro w0 Z0 us ⟨x0, x1, u⟩ L a w
  revert x0 x1
  intro (x0 : (List Int)) (x1 : Int) hio hpre hlens h
  replace h : At w0 Z0 L 10 ⟨[(0, aG [.sl 1]), (1, aI x1)], [(1, oR (.int 3) x0), (2, oP 1 (S_laws_markHashKey.hd us 0))]⟩ a w := h
  replace hpre : (pMkT s57) x0 x1 := hpre
  have hl1 : List.length x0 ≤ 9223372036854775807 := hlens.1.1
  have hT : TabOK Try.prog S_laws_markHashKey_tab := (.cons S_laws_markIntS_ok .nil)
  have hp : 0 ≤ x1 ∧ x1 + ((Sh.ctT s57 x0 : Nat) : Int) ≤ 4611686018427387904 := hpre
  have hct0 : Sh.ctT s57 x0 = (Sh.ct s22 x0) := rfl
  refine wp_seq ?_
  refine at_regq (T := S_laws_markHashKey_tab) [{ ids := [3] }] { ts := [1, 2, 4], os := [1, 2, 3] } [] gamOK hT h (by kernel_rfl) trivial ?_
  intro a w h
  refine then_normal ?_
  refine wp_seq ?_
  refine at_regq (T := S_laws_markHashKey_tab) [] { ts := [1, 4], os := [1, 2] } [(pMk s22) x0 x1] gamOK hT h (by kernel_rfl) ⟨(by (first | (show (0 : Int) ≤ _ ∧ _ + ((Sh.ct _ _ : Nat) : Int) ≤ (4611686018427387904 : Int); (try simp only [mkK, mkKT]); constructor <;> omega) | (show (0 : Int) ≤ _ ∧ _ + ((Sh.ctT _ _ : Nat) : Int) ≤ (4611686018427387904 : Int); (try simp only [mkK, mkKT]); constructor <;> omega))), trivial⟩ ?_
  intro a w h
  refine then_normal ?_
  refine wp_seq ?_
  refine at_regq (T := S_laws_markHashKey_tab) [] { ts := [4], os := [1, 2] } [] gamOK hT h (by kernel_rfl) trivial ?_
  intro a w h
  refine then_normal ?_
  refine wp_ret ?_
  exact at_returnI (S := S_laws_markHashKey) (x := (x0, x1, ())) [1] [2] (((Sh.mk s22) x0 x1), (x1, ())) (some (((mkK s22) x0 x1), ())) [S_laws_markHashKey.hd us 0 = S_laws_markHashKey.hd us 0] hio h (by kernel_rfl) ⟨rfl, trivial⟩ (by first | rfl | exact congrArg (fun (z : (List Int)) => (z, (x1, ()))) (show (((Sh.mk s22) x0 x1) : (List Int)) = (Sh.mkT s57) x0 x1 from by show _ = Sh.mkT s57 x0 x1; exact (congrArg (fun k => Sh.mk s22 x0 k) (show (_ : Int) = x1 from by first | rfl | ((try simp only [mkK, mkKT]); omega))))) (fun z e => (Option.some.inj e) ▸ (congrArg (fun z => (z, ())) (show (((mkK s22) x0 x1)) = (mkKT s57) x0 x1 from by ((try simp only [mkK, mkKT]); omega))))

def S_laws_markProofS : Sum := { fid := 100, dom := [s51, (.int 3)], cod := [(.int 3)], dp := true, fz := false, pre := fun x => (pMk s51) x.1 x.2.1, g := fun x => (((mkK s51) x.1 x.2.1), ()), kinds := [.io, .rd], upd := fun x => ((Sh.mk s51) x.1 x.2.1, (x.2.1, ())) }
def S_laws_markProofS_tab : List (Nat × Sum) := []
theorem S_laws_markProofS_ok : FnOK Try.prog 100 S_laws_markProofS := by
  refine at_enterI 34 [1] [2] (fun us x => ⟨[(0, aS 1), (1, aI x.2.1)], [(1, oR s159 x.1), (2, oP 1 (S_laws_markProofS.hd us 0))]⟩) Try.func100 rfl (by kernel_rfl) (fun us x => rfl) ?_
  rintro w0 Z0 us ⟨x0, x1, u⟩ L a w
  revert x0 x1
  intro (x0 : (List T159)) (x1 : Int) hio hpre hlens h
  replace h : At w0 Z0 L 34 ⟨[(0, aS 1), (1, aI x1)], [(1, oR s159 x0), (2, oP 1 (S_laws_markProofS.hd us 0))]⟩ a w := h
  replace hpre : (pMk s51) x0 x1 := hpre
  have hl1 : List.length x0 ≤ 9223372036854775807 := hlens.1.1
  have hT : TabOK Try.prog S_laws_markProofS_tab := .nil
  have hp : 0 ≤ x1 ∧ x1 + ((Sh.ct s51 x0 : Nat) : Int) ≤ 4611686018427387904 := hpre
  have hct0 : Sh.ct s51 x0 = ctL (Sh.ct s159) x0 := rfl
  refine wp_seq ?_
  refine at_regq (T := S_laws_markProofS_tab) [] { ts := [0, 1, 4], os := [1, 2] } [] gamOK hT h (by kernel_rfl) trivial ?_
  intro a w h
  refine then_normal ?_
  refine wp_seq ?_
  refine wp_seq ?_
  refine at_regq (T := S_laws_markProofS_tab) [] { ts := [0, 1, 4, 5], os := [1, 2] } [] gamOK hT h (by kernel_rfl) trivial ?_
  intro a w h
  refine then_normal ?_
  refine wp_block ?_
  replace h := at_out (σ' := ⟨[(0, aS 1), (1, aI x1), (4, aI 0), (5, aI 0)], [(1, oR s159 x0), (2, oP 1 (S_laws_markProofS.hd us 0))]⟩) { ts := [0, 1, 4, 5], os := [1, 2] } h (by kernel_rfl)
  refine at_loop (fun i : Nat => (⟨[(0, aS 1), (1, aI (x1 + ((ctL (Sh.ct s159) (List.take i x0) : Nat) : Int))), (4, aI 0), (5, aI ((i : Nat) : Int))], [(1, oR s159 (mkAt (Sh.mk s159) (Sh.ct s159) x1 x0 i)), (2, oP 1 (S_laws_markProofS.hd us 0))]⟩ : St)) (fun i => i ≤ List.length x0) (fun i => List.length x0 - i) (0) h (st_congr3 (fun (d0 : List T159) (d1 : Int) (d2 : Int) => (⟨[(0, aS 1), (1, aI d1), (4, aI 0), (5, aI d2)], [(1, oR s159 d0), (2, oP 1 (S_laws_markProofS.hd us 0))]⟩ : St)) (show (x0 : List T159) = (mkAt (Sh.mk s159) (Sh.ct s159) x1 x0 (0)) from by first | with_reducible rfl | (first | exact mkAt_zero.symm | simp [ctL]) | rfl) (show (x1 : Int) = (x1 + ((ctL (Sh.ct s159) (List.take (0) x0) : Nat) : Int)) from by first | with_reducible rfl | (first | exact mkAt_zero.symm | simp [ctL]) | rfl) (show (0 : Int) = (((0) : Nat) : Int) from by first | with_reducible rfl | (first | exact mkAt_zero.symm | simp [ctL]) | rfl)) (by omega) ?_
  intro i a w hok0 h
  refine wp_seq ?_
  refine wp_seq ?_
  refine at_regq (T := S_laws_markProofS_tab) [] { ts := [0, 1, 4, 5, 9], os := [1, 2] } [] gamOK hT h (by kernel_rfl) trivial ?_
  intro a w h
  refine then_normal ?_
  refine at_test (decide (((i : Nat) : Int) < ((List.length (mkAt (Sh.mk s159) (Sh.ct s159) x1 x0 i) : Nat) : Int))) h (by kernel_rfl) (fun h1 => ?_) (fun h1 => ?_)
  · replace h1 : ((i : Nat) : Int) < ((List.length (mkAt (Sh.mk s159) (Sh.ct s159) x1 x0 i) : Nat) : Int) := of_decide_eq_true h1
    have hml : List.length (mkAt (Sh.mk s159) (Sh.ct s159) x1 x0 i) = List.length x0 := mkAt_len
    rw [hml] at h1
    have hat := ctL_at_le (c := Sh.ct s159) (xs := x0) (z := (0, (0, 0))) (i := i) (by omega)
    have hsu := ctL_take_succ (c := Sh.ct s159) (xs := x0) (z := (0, (0, 0))) (i := i) (by omega)
    have hci : Sh.ct s159 (x0.getD i (0, (0, 0))) = (1 + (1 + 1)) := rfl
    have hge : List.getD (mkAt (Sh.mk s159) (Sh.ct s159) x1 x0 i) i (0, (0, 0)) = (x0.getD i (0, (0, 0))) := mkAt_get (by omega)
    refine wp_skip ?_
    refine then_normal ?_
    refine wp_seq ?_
    refine wp_block ?_
    refine wp_seq ?_
    replace h := at_open (σ' := ⟨[(0, aS 1), (1, aI (x1 + ((ctL (Sh.ct s159) (List.take i x0) : Nat) : Int))), (4, aI 0), (5, aI ((i : Nat) : Int)), (9, aB (decide (((i : Nat) : Int) < ((List.length (mkAt (Sh.mk s159) (Sh.ct s159) x1 x0 i) : Nat) : Int))))], [(1, some (.op s159 (mkAt (Sh.mk s159) (Sh.ct s159) x1 x0 i) i [cI ((mkAt (Sh.mk s159) (Sh.ct s159) x1 x0 i).getD i (0, (0, 0))).1, cI ((mkAt (Sh.mk s159) (Sh.ct s159) x1 x0 i).getD i (0, (0, 0))).2.1, cI ((mkAt (Sh.mk s159) (Sh.ct s159) x1 x0 i).getD i (0, (0, 0))).2.2])), (2, oP 1 (S_laws_markProofS.hd us 0))]⟩) (ps := [i < List.length (mkAt (Sh.mk s159) (Sh.ct s159) x1 x0 i)]) 1 i [] { ts := [0, 1, 4, 5, 9], os := [1, 2] } h (by kernel_rfl) ⟨(by first | omega | ((try simp only [hge, mkK]); omega) | (simp only [List.length_append, List.length_cons, List.length_nil, List.length_set, List.length_take, List.length_drop, List.length_replicate, List.length_map, Nat.min_def, mkAt_len]; omega) | (simp; done) | (simp; omega)), trivial⟩
    refine at_reg (T := S_laws_markProofS_tab) [] { ts := [0, 1, 4, 5], os := [1, 2] } ⟨[(0, aS 1), (1, aI (x1 + ((ctL (Sh.ct s159) (List.take i x0) : Nat) : Int))), (4, aI 0), (5, aI ((i : Nat) : Int))], [(1, some (.op s159 (mkAt (Sh.mk s159) (Sh.ct s159) x1 x0 i) i [cI (x1 + ((ctL (Sh.ct s159) (List.take i x0) : Nat) : Int)), cI ((mkAt (Sh.mk s159) (Sh.ct s159) x1 x0 i).getD i (0, (0, 0))).2.1, cI ((mkAt (Sh.mk s159) (Sh.ct s159) x1 x0 i).getD i (0, (0, 0))).2.2])), (2, oP 1 (S_laws_markProofS.hd us 0))]⟩ [(0 : Int) ≤ ((i : Nat) : Int) ∧ ((i : Nat) : Int) < ((List.length (mkAt (Sh.mk s159) (Sh.ct s159) x1 x0 i) : Nat) : Int), i = i] gamOK hT h (by kernel_rfl) ⟨(by refine ⟨?_, ?_⟩ <;> (first | omega | ((try simp only [hge, mkK]); omega) | (simp only [List.length_append, List.length_cons, List.length_nil, List.length_set, List.length_take, List.length_drop, List.length_replicate, List.length_map, Nat.min_def, mkAt_len]; omega) | (simp; done) | (simp; omega))), rfl, trivial⟩ ?_
    intro a w h
    refine then_normal ?_
    refine wp_seq ?_
    refine at_regq (T := S_laws_markProofS_tab) [{}, { nw := true }] { ts := [0, 1, 4, 5], os := [1, 2] } [I64 ((x1 + ((ctL (Sh.ct s159) (List.take i x0) : Nat) : Int)) + 1)] gamOK hT h (by kernel_rfl) ⟨⟨by first | omega | ((try simp only [hge, mkK]); omega) | (simp only [List.length_append, List.length_cons, List.length_nil, List.length_set, List.length_take, List.length_drop, List.length_replicate, List.length_map, Nat.min_def, mkAt_len]; omega) | (simp; done) | (simp; omega), by first | omega | ((try simp only [hge, mkK]); omega) | (simp only [List.length_append, List.length_cons, List.length_nil, List.length_set, List.length_take, List.length_drop, List.length_replicate, List.length_map, Nat.min_def, mkAt_len]; omega) | (simp; done) | (simp; omega)⟩, trivial⟩ ?_
    intro a w h
    refine then_normal ?_
    refine wp_seq ?_
    refine at_regq (T := S_laws_markProofS_tab) [] { ts := [0, 1, 4, 5], os := [1, 2] } [(0 : Int) ≤ ((i : Nat) : Int) ∧ ((i : Nat) : Int) < ((List.length (mkAt (Sh.mk s159) (Sh.ct s159) x1 x0 i) : Nat) : Int), i = i] gamOK hT h (by kernel_rfl) ⟨(by refine ⟨?_, ?_⟩ <;> (first | omega | ((try simp only [hge, mkK]); omega) | (simp only [List.length_append, List.length_cons, List.length_nil, List.length_set, List.length_take, List.length_drop, List.length_replicate, List.length_map, Nat.min_def, mkAt_len]; omega) | (simp; done) | (simp; omega))), rfl, trivial⟩ ?_
    intro a w h
    refine then_normal ?_
    refine wp_seq ?_
    refine at_regq (T := S_laws_markProofS_tab) [{}, { nw := true }] { ts := [0, 1, 4, 5], os := [1, 2] } [I64 (((x1 + ((ctL (Sh.ct s159) (List.take i x0) : Nat) : Int)) + 1) + 1)] gamOK hT h (by kernel_rfl) ⟨⟨by first | omega | ((try simp only [hge, mkK]); omega) | (simp only [List.length_append, List.length_cons, List.length_nil, List.length_set, List.length_take, List.length_drop, List.length_replicate, List.length_map, Nat.min_def, mkAt_len]; omega) | (simp; done) | (simp; omega), by first | omega | ((try simp only [hge, mkK]); omega) | (simp only [List.length_append, List.length_cons, List.length_nil, List.length_set, List.length_take, List.length_drop, List.length_replicate, List.length_map, Nat.min_def, mkAt_len]; omega) | (simp; done) | (simp; omega)⟩, trivial⟩ ?_
    intro a w h
    refine then_normal ?_
    refine wp_seq ?_
    refine at_reg (T := S_laws_markProofS_tab) [] { ts := [0, 1, 4, 5], os := [1, 2] } ⟨[(0, aS 1), (1, aI (((x1 + ((ctL (Sh.ct s159) (List.take i x0) : Nat) : Int)) + 1) + 1)), (4, aI 0), (5, aI ((i : Nat) : Int))], [(1, some (.op s159 (mkAt (Sh.mk s159) (Sh.ct s159) x1 x0 i) i [cI (x1 + ((ctL (Sh.ct s159) (List.take i x0) : Nat) : Int)), cI ((x1 + ((ctL (Sh.ct s159) (List.take i x0) : Nat) : Int)) + 1), cI (((x1 + ((ctL (Sh.ct s159) (List.take i x0) : Nat) : Int)) + 1) + 1)])), (2, oP 1 (S_laws_markProofS.hd us 0))]⟩ [(0 : Int) ≤ ((i : Nat) : Int) ∧ ((i : Nat) : Int) < ((List.length (mkAt (Sh.mk s159) (Sh.ct s159) x1 x0 i) : Nat) : Int), i = i] gamOK hT h (by kernel_rfl) ⟨(by refine ⟨?_, ?_⟩ <;> (first | omega | ((try simp only [hge, mkK]); omega) | (simp only [List.length_append, List.length_cons, List.length_nil, List.length_set, List.length_take, List.length_drop, List.length_replicate, List.length_map, Nat.min_def, mkAt_len]; omega) | (simp; done) | (simp; omega))), rfl, trivial⟩ ?_
    intro a w h
    refine then_normal ?_
    refine at_regq (T := S_laws_markProofS_tab) [{}, { nw := true }] { ts := [0, 1, 4, 5], os := [1, 2] } [I64 ((((x1 + ((ctL (Sh.ct s159) (List.take i x0) : Nat) : Int)) + 1) + 1) + 1)] gamOK hT h (by kernel_rfl) ⟨⟨by first | omega | ((try simp only [hge, mkK]); omega) | (simp only [List.length_append, List.length_cons, List.length_nil, List.length_set, List.length_take, List.length_drop, List.length_replicate, List.length_map, Nat.min_def, mkAt_len]; omega) | (simp; done) | (simp; omega), by first | omega | ((try simp only [hge, mkK]); omega) | (simp only [List.length_append, List.length_cons, List.length_nil, List.length_set, List.length_take, List.length_drop, List.length_replicate, List.length_map, Nat.min_def, mkAt_len]; omega) | (simp; done) | (simp; omega)⟩, trivial⟩ ?_
    intro a w h
    refine in_normal ?_
    refine then_normal ?_
    refine at_regq (T := S_laws_markProofS_tab) [{}, { nw := true }] { ts := [0, 1, 4, 5], os := [1, 2] } [I64 (((i : Nat) : Int) + 1)] gamOK hT h (by kernel_rfl) ⟨⟨by first | omega | ((try simp only [hge, mkK]); omega) | (simp only [List.length_append, List.length_cons, List.length_nil, List.length_set, List.length_take, List.length_drop, List.length_replicate, List.length_map, Nat.min_def, mkAt_len]; omega) | (simp; done) | (simp; omega), by first | omega | ((try simp only [hge, mkK]); omega) | (simp only [List.length_append, List.length_cons, List.length_nil, List.length_set, List.length_take, List.length_drop, List.length_replicate, List.length_map, Nat.min_def, mkAt_len]; omega) | (simp; done) | (simp; omega)⟩, trivial⟩ ?_
    intro a w h
    replace h := at_shut (σ' := ⟨[(0, aS 1), (1, aI ((((x1 + ((ctL (Sh.ct s159) (List.take i x0) : Nat) : Int)) + 1) + 1) + 1)), (4, aI 0), (5, aI (((i : Nat) : Int) + 1))], [(1, oR s159 (List.set (mkAt (Sh.mk s159) (Sh.ct s159) x1 x0 i) i ((x1 + ((ctL (Sh.ct s159) (List.take i x0) : Nat) : Int)), ((x1 + ((ctL (Sh.ct s159) (List.take i x0) : Nat) : Int)) + 1, ((x1 + ((ctL (Sh.ct s159) (List.take i x0) : Nat) : Int)) + 1) + 1)))), (2, oP 1 (S_laws_markProofS.hd us 0))]⟩) (ps := []) 1 { ts := [0, 1, 4, 5], os := [1, 2] } h (by kernel_rfl) trivial
    replace h := at_out (σ' := ⟨[(0, aS 1), (1, aI ((((x1 + ((ctL (Sh.ct s159) (List.take i x0) : Nat) : Int)) + 1) + 1) + 1)), (4, aI 0), (5, aI (((i : Nat) : Int) + 1))], [(1, oR s159 (List.set (mkAt (Sh.mk s159) (Sh.ct s159) x1 x0 i) i ((x1 + ((ctL (Sh.ct s159) (List.take i x0) : Nat) : Int)), ((x1 + ((ctL (Sh.ct s159) (List.take i x0) : Nat) : Int)) + 1, ((x1 + ((ctL (Sh.ct s159) (List.take i x0) : Nat) : Int)) + 1) + 1)))), (2, oP 1 (S_laws_markProofS.hd us 0))]⟩) { ts := [0, 1, 4, 5], os := [1, 2] } h (by kernel_rfl)
    skip
    exact ⟨i + 1, at_eq h (st_congr3 (fun (d0 : List T159) (d1 : Int) (d2 : Int) => (⟨[(0, aS 1), (1, aI d1), (4, aI 0), (5, aI d2)], [(1, oR s159 d0), (2, oP 1 (S_laws_markProofS.hd us 0))]⟩ : St)) (show ((List.set (mkAt (Sh.mk s159) (Sh.ct s159) x1 x0 i) i ((x1 + ((ctL (Sh.ct s159) (List.take i x0) : Nat) : Int)), ((x1 + ((ctL (Sh.ct s159) (List.take i x0) : Nat) : Int)) + 1, ((x1 + ((ctL (Sh.ct s159) (List.take i x0) : Nat) : Int)) + 1) + 1))) : List T159) = (mkAt (Sh.mk s159) (Sh.ct s159) x1 x0 (i + 1)) from by first | with_reducible rfl | (refine mkAt_set' (z := (0, (0, 0))) (by omega) ?_; first | (simp only [hge, mkK]; done) | ((try simp only [hge, mkK]); show _ = Sh.mk s159 (x0.getD i (0, (0, 0))) _; exact (Prod.ext (by show (_ : Int) = _; first | rfl | omega) (Prod.ext (by show (_ : Int) = _; first | rfl | omega) (by show (_ : Int) = _; first | rfl | omega))))) | rfl) (show ((((x1 + ((ctL (Sh.ct s159) (List.take i x0) : Nat) : Int)) + 1) + 1) + 1 : Int) = (x1 + ((ctL (Sh.ct s159) (List.take (i + 1) x0) : Nat) : Int)) from by first | with_reducible rfl | (((try simp only [hge, mkK]); omega)) | rfl) (show (((i : Nat) : Int) + 1 : Int) = (((i + 1) : Nat) : Int) from by first | with_reducible rfl | (omega) | rfl)), (by first | omega | (refine ⟨?_, ?_⟩ <;> omega)), (by omega)⟩
  · replace h1 : ¬ (((i : Nat) : Int) < ((List.length (mkAt (Sh.mk s159) (Sh.ct s159) x1 x0 i) : Nat) : Int)) := of_decide_eq_false h1
    have hml : List.length (mkAt (Sh.mk s159) (Sh.ct s159) x1 x0 i) = List.length x0 := mkAt_len
    rw [hml] at h1
    refine wp_exit ?_
    refine then_exit ?_
    refine then_exit ?_
    refine in_hit ?_
    refine then_normal ?_
    refine wp_seq ?_
    refine at_reg (T := S_laws_markProofS_tab) [] { ts := [4], os := [1, 2] } ⟨[(4, aI (x1 + ((ctL (Sh.ct s159) (List.take i x0) : Nat) : Int)))], [(1, oR s159 (mkAt (Sh.mk s159) (Sh.ct s159) x1 x0 i)), (2, oP 1 (S_laws_markProofS.hd us 0))]⟩ [] gamOK hT h (by kernel_rfl) trivial ?_
    intro a w h
    refine then_normal ?_
    refine wp_ret ?_
    exact at_returnI (S := S_laws_markProofS) (x := (x0, x1, ())) [1] [2] ((mkAt (Sh.mk s159) (Sh.ct s159) x1 x0 i), (x1, ())) (some ((x1 + ((ctL (Sh.ct s159) (List.take i x0) : Nat) : Int)), ())) [S_laws_markProofS.hd us 0 = S_laws_markProofS.hd us 0] hio h (by kernel_rfl) ⟨rfl, trivial⟩ (by first | rfl | exact congrArg (fun (z : (List T159)) => (z, (x1, ()))) (show ((mkAt (Sh.mk s159) (Sh.ct s159) x1 x0 i) : (List T159)) = (Sh.mk s51) x0 x1 from by exact mkAt_all (by omega))) (fun z e => (Option.some.inj e) ▸ (congrArg (fun z => (z, ())) (show ((x1 + ((ctL (Sh.ct s159) (List.take i x0) : Nat) : Int))) = (mkK s51) x0 x1 from by (unfold mkK; rw [take_all (by omega)]; rfl))))

def S_laws_markLedger : Sum := { fid := 31, dom := [s53, (.int 3)], cod := [(.int 3)], dp := true, fz := false, pre := fun x => (pMkT s53) x.1 x.2.1, g := fun x => (((mkKT s53) x.1 x.2.1), ()), kinds := [.io, .rd], upd := fun x => ((Sh.mkT s53) x.1 x.2.1, (x.2.1, ())) }
def S_laws_markLedger_tab : List (Nat × Sum) := [(100, S_laws_markProofS)]
theorem S_laws_markLedger_ok : FnOK Try.prog 31 S_laws_markLedger := by
  refine at_enterI 10 [1] [2] (fun us x => ⟨[(0, aG [.sl 1]), (1, aI x.2.1)], [(1, oR s159 x.1), (2, oP 1 (S_laws_markLedger.hd us 0))]⟩) Try.func31 rfl (by kernel_rfl) (fun us x => rfl) ?_
  rintro w0 Z0 us ⟨x0, x1, u⟩ L a w
  revert x0 x1
  intro (x0 : (List T159)) (x1 : Int) hio hpre hlens h
  replace h : At w0 Z0 L 10 ⟨[(0, aG [.sl 1]), (1, aI x1)], [(1, oR s159 x0), (2, oP 1 (S_laws_markLedger.hd us 0))]⟩ a w := h
  replace hpre : (pMkT s53) x0 x1 := hpre
  have hl1 : List.length x0 ≤ 9223372036854775807 := hlens.1.1
  have hT : TabOK Try.prog S_laws_markLedger_tab := (.cons S_laws_markProofS_ok .nil)
  have hp : 0 ≤ x1 ∧ x1 + ((Sh.ctT s53 x0 : Nat) : Int) ≤ 4611686018427387904 := hpre
  have hct0 : Sh.ctT s53 x0 = (Sh.ct s51 x0) := rfl
  refine wp_seq ?_
  refine at_regq (T := S_laws_markLedger_tab) [{ ids := [3] }] { ts := [1, 2, 4], os := [1, 2, 3] } [] gamOK hT h (by kernel_rfl) trivial ?_
  intro a w h
  refine then_normal ?_
  refine wp_seq ?_
  refine at_regq (T := S_laws_markLedger_tab) [] { ts := [1, 4], os := [1, 2] } [(pMk s51) x0 x1] gamOK hT h (by kernel_rfl) ⟨(by (first | (show (0 : Int) ≤ _ ∧ _ + ((Sh.ct _ _ : Nat) : Int) ≤ (4611686018427387904 : Int); (try simp only [mkK, mkKT]); constructor <;> omega) | (show (0 : Int) ≤ _ ∧ _ + ((Sh.ctT _ _ : Nat) : Int) ≤ (4611686018427387904 : Int); (try simp only [mkK, mkKT]); constructor <;> omega))), trivial⟩ ?_
  intro a w h
  refine then_normal ?_
  refine wp_seq ?_
  refine at_regq (T := S_laws_markLedger_tab) [] { ts := [4], os := [1, 2] } [] gamOK hT h (by kernel_rfl) trivial ?_
  intro a w h
  refine then_normal ?_
  refine wp_ret ?_
  exact at_returnI (S := S_laws_markLedger) (x := (x0, x1, ())) [1] [2] (((Sh.mk s51) x0 x1), (x1, ())) (some (((mkK s51) x0 x1), ())) [S_laws_markLedger.hd us 0 = S_laws_markLedger.hd us 0] hio h (by kernel_rfl) ⟨rfl, trivial⟩ (by first | rfl | exact congrArg (fun (z : (List T159)) => (z, (x1, ()))) (show (((Sh.mk s51) x0 x1) : (List T159)) = (Sh.mkT s53) x0 x1 from by show _ = Sh.mkT s53 x0 x1; exact (congrArg (fun k => Sh.mk s51 x0 k) (show (_ : Int) = x1 from by first | rfl | ((try simp only [mkK, mkKT]); omega))))) (fun z e => (Option.some.inj e) ▸ (congrArg (fun z => (z, ())) (show (((mkK s51) x0 x1)) = (mkKT s53) x0 x1 from by ((try simp only [mkK, mkKT]); omega))))

def S_laws_markLinkPacket : Sum := { fid := 34, dom := [s63, (.int 3)], cod := [(.int 3)], dp := true, fz := false, pre := fun x => (pMkT s63) x.1 x.2.1, g := fun x => (((mkKT s63) x.1 x.2.1), ()), kinds := [.io, .rd], upd := fun x => ((Sh.mkT s63) x.1 x.2.1, (x.2.1, ())) }
def S_laws_markLinkPacket_tab : List (Nat × Sum) := [(61, S_laws_markCodedPacket)]
theorem S_laws_markLinkPacket_ok : FnOK Try.prog 34 S_laws_markLinkPacket := by
  refine at_enterI 10 [1, 2] [3, 4] (fun us x => ⟨[(0, aG [cI x.1.1, cI x.1.2.1, cI x.1.2.2.1, cI x.1.2.2.2.1.1, .sl 1, .sl 2, cI x.1.2.2.2.2]), (1, aI x.2.1)], [(1, oR (.int 3) x.1.2.2.2.1.2.1), (2, oR (.int 3) x.1.2.2.2.1.2.2), (3, oP 1 (S_laws_markLinkPacket.hd us 0)), (4, oP 2 (S_laws_markLinkPacket.hd us 1))]⟩) Try.func34 rfl (by kernel_rfl) (fun us x => rfl) ?_
  rintro w0 Z0 us ⟨x0, x1, u⟩ L a w
  revert x0 x1
  intro (x0 : T63) (x1 : Int) hio hpre hlens h
  replace h : At w0 Z0 L 10 ⟨[(0, aG [cI x0.1, cI x0.2.1, cI x0.2.2.1, cI x0.2.2.2.1.1, .sl 1, .sl 2, cI x0.2.2.2.2]), (1, aI x1)], [(1, oR (.int 3) x0.2.2.2.1.2.1), (2, oR (.int 3) x0.2.2.2.1.2.2), (3, oP 1 (S_laws_markLinkPacket.hd us 0)), (4, oP 2 (S_laws_markLinkPacket.hd us 1))]⟩ a w := h
  replace hpre : (pMkT s63) x0 x1 := hpre
  have hl1 : List.length x0.2.2.2.1.2.1 ≤ 9223372036854775807 := hlens.1.2.2.2.1.2.1.1
  have hl2 : List.length x0.2.2.2.1.2.2 ≤ 9223372036854775807 := hlens.1.2.2.2.1.2.2.1
  have hT : TabOK Try.prog S_laws_markLinkPacket_tab := (.cons S_laws_markCodedPacket_ok .nil)
  have hp : 0 ≤ x1 ∧ x1 + ((Sh.ctT s63 x0 : Nat) : Int) ≤ 4611686018427387904 := hpre
  have hct0 : Sh.ctT s63 x0 = (0 + (0 + (0 + ((Sh.ctT s61 x0.2.2.2.1) + 0)))) := rfl
  refine wp_seq ?_
  refine at_regq (T := S_laws_markLinkPacket_tab) [{ ids := [5] }] { ts := [1, 2, 4], os := [1, 2, 3, 4, 5] } [] gamOK hT h (by kernel_rfl) trivial ?_
  intro a w h
  refine then_normal ?_
  refine wp_seq ?_
  refine at_regq (T := S_laws_markLinkPacket_tab) [] { ts := [1, 4], os := [1, 2, 3, 4] } [(pMkT s61) x0.2.2.2.1 x1] gamOK hT h (by kernel_rfl) ⟨(by (first | (show (0 : Int) ≤ _ ∧ _ + ((Sh.ct _ _ : Nat) : Int) ≤ (4611686018427387904 : Int); (try simp only [mkK, mkKT]); constructor <;> omega) | (show (0 : Int) ≤ _ ∧ _ + ((Sh.ctT _ _ : Nat) : Int) ≤ (4611686018427387904 : Int); (try simp only [mkK, mkKT]); constructor <;> omega))), trivial⟩ ?_
  intro a w h
  refine then_normal ?_
  refine wp_seq ?_
  refine at_regq (T := S_laws_markLinkPacket_tab) [] { ts := [4], os := [1, 2, 3, 4] } [] gamOK hT h (by kernel_rfl) trivial ?_
  intro a w h
  refine then_normal ?_
  refine wp_ret ?_
  exact at_returnI (S := S_laws_markLinkPacket) (x := (x0, x1, ())) [1, 2] [3, 4] ((x0.1, (x0.2.1, (x0.2.2.1, (((Sh.mkT s61) x0.2.2.2.1 x1), x0.2.2.2.2)))), (x1, ())) (some (((mkKT s61) x0.2.2.2.1 x1), ())) [S_laws_markLinkPacket.hd us 0 = S_laws_markLinkPacket.hd us 0, S_laws_markLinkPacket.hd us 1 = S_laws_markLinkPacket.hd us 1] hio h (by kernel_rfl) ⟨rfl, rfl, trivial⟩ (by first | rfl | exact congrArg (fun (z : T63) => (z, (x1, ()))) (show ((x0.1, (x0.2.1, (x0.2.2.1, (((Sh.mkT s61) x0.2.2.2.1 x1), x0.2.2.2.2)))) : T63) = (Sh.mkT s63) x0 x1 from by show _ = Sh.mkT s63 x0 x1; exact (Prod.ext rfl (Prod.ext rfl (Prod.ext rfl (Prod.ext (congrArg (fun k => Sh.mkT s61 x0.2.2.2.1 k) (show (_ : Int) = x1 + ((0 : Nat) : Int) + ((0 : Nat) : Int) + ((0 : Nat) : Int) from by first | rfl | ((try simp only [mkK, mkKT]); omega))) rfl)))))) (fun z e => (Option.some.inj e) ▸ (congrArg (fun z => (z, ())) (show (((mkKT s61) x0.2.2.2.1 x1)) = (mkKT s63) x0 x1 from by ((try simp only [mkK, mkKT]); omega))))

def S_laws_markManifest : Sum := { fid := 33, dom := [s59, (.int 3)], cod := [(.int 3)], dp := true, fz := false, pre := fun x => (pMkT s59) x.1 x.2.1, g := fun x => (((mkKT s59) x.1 x.2.1), ()), kinds := [.io, .rd], upd := fun x => ((Sh.mkT s59) x.1 x.2.1, (x.2.1, ())) }
def S_laws_markManifest_tab : List (Nat × Sum) := [(101, S_laws_markIntS)]
theorem S_laws_markManifest_ok : FnOK Try.prog 33 S_laws_markManifest := by
  refine at_enterI 10 [1] [2] (fun us x => ⟨[(0, aG [cI x.1.1, cI x.1.2.1, cI x.1.2.2.1, cI x.1.2.2.2.1, .sl 1, cI x.1.2.2.2.2.2]), (1, aI x.2.1)], [(1, oR (.int 3) x.1.2.2.2.2.1), (2, oP 1 (S_laws_markManifest.hd us 0))]⟩) Try.func33 rfl (by kernel_rfl) (fun us x => rfl) ?_
  rintro w0 Z0 us ⟨x0, x1, u⟩ L a w
  revert x0 x1
  intro (x0 : T59) (x1 : Int) hio hpre hlens h
  replace h : At w0 Z0 L 10 ⟨[(0, aG [cI x0.1, cI x0.2.1, cI x0.2.2.1, cI x0.2.2.2.1, .sl 1, cI x0.2.2.2.2.2]), (1, aI x1)], [(1, oR (.int 3) x0.2.2.2.2.1), (2, oP 1 (S_laws_markManifest.hd us 0))]⟩ a w := h
  replace hpre : (pMkT s59) x0 x1 := hpre
  have hl1 : List.length x0.2.2.2.2.1 ≤ 9223372036854775807 := hlens.1.2.2.2.2.1.1
  have hT : TabOK Try.prog S_laws_markManifest_tab := (.cons S_laws_markIntS_ok .nil)
  have hp : 0 ≤ x1 ∧ x1 + ((Sh.ctT s59 x0 : Nat) : Int) ≤ 4611686018427387904 := hpre
  have hct0 : Sh.ctT s59 x0 = (0 + (0 + (0 + (0 + ((Sh.ct s22 x0.2.2.2.2.1) + 0))))) := rfl
  refine wp_seq ?_
  refine at_regq (T := S_laws_markManifest_tab) [{ ids := [3] }] { ts := [1, 2, 4], os := [1, 2, 3] } [] gamOK hT h (by kernel_rfl) trivial ?_
  intro a w h
  refine then_normal ?_
  refine wp_seq ?_
  refine at_regq (T := S_laws_markManifest_tab) [] { ts := [1, 4], os := [1, 2] } [(pMk s22) x0.2.2.2.2.1 x1] gamOK hT h (by kernel_rfl) ⟨(by (first | (show (0 : Int) ≤ _ ∧ _ + ((Sh.ct _ _ : Nat) : Int) ≤ (4611686018427387904 : Int); (try simp only [mkK, mkKT]); constructor <;> omega) | (show (0 : Int) ≤ _ ∧ _ + ((Sh.ctT _ _ : Nat) : Int) ≤ (4611686018427387904 : Int); (try simp only [mkK, mkKT]); constructor <;> omega))), trivial⟩ ?_
  intro a w h
  refine then_normal ?_
  refine wp_seq ?_
  refine at_regq (T := S_laws_markManifest_tab) [] { ts := [4], os := [1, 2] } [] gamOK hT h (by kernel_rfl) trivial ?_
  intro a w h
  refine then_normal ?_
  refine wp_ret ?_
  exact at_returnI (S := S_laws_markManifest) (x := (x0, x1, ())) [1] [2] ((x0.1, (x0.2.1, (x0.2.2.1, (x0.2.2.2.1, (((Sh.mk s22) x0.2.2.2.2.1 x1), x0.2.2.2.2.2))))), (x1, ())) (some (((mkK s22) x0.2.2.2.2.1 x1), ())) [S_laws_markManifest.hd us 0 = S_laws_markManifest.hd us 0] hio h (by kernel_rfl) ⟨rfl, trivial⟩ (by first | rfl | exact congrArg (fun (z : T59) => (z, (x1, ()))) (show ((x0.1, (x0.2.1, (x0.2.2.1, (x0.2.2.2.1, (((Sh.mk s22) x0.2.2.2.2.1 x1), x0.2.2.2.2.2))))) : T59) = (Sh.mkT s59) x0 x1 from by show _ = Sh.mkT s59 x0 x1; exact (Prod.ext rfl (Prod.ext rfl (Prod.ext rfl (Prod.ext rfl (Prod.ext (congrArg (fun k => Sh.mk s22 x0.2.2.2.2.1 k) (show (_ : Int) = x1 + ((0 : Nat) : Int) + ((0 : Nat) : Int) + ((0 : Nat) : Int) + ((0 : Nat) : Int) from by first | rfl | ((try simp only [mkK, mkKT]); omega))) rfl))))))) (fun z e => (Option.some.inj e) ▸ (congrArg (fun z => (z, ())) (show (((mkK s22) x0.2.2.2.2.1 x1)) = (mkKT s59) x0 x1 from by ((try simp only [mkK, mkKT]); omega))))

def S_laws_szIntS : Sum := { fid := 80, dom := [s22, (.int 3)], cod := [(.int 3)], dp := true, fz := false, pre := fun x => (pSz s22) x.1 x.2.1, g := fun x => (((szD s22) x.1 x.2.1), ()) }
def S_laws_szIntS_tab : List (Nat × Sum) := []
theorem S_laws_szIntS_ok : FnOK Try.prog 80 S_laws_szIntS := by
  refine at_enter 12 (fun x => ⟨[(0, aF (.int 3) x.1), (1, aI x.2.1)], []⟩) Try.func80 rfl (by kernel_rfl) (fun x => rfl) ?_
  rintro w0 Z0 ⟨x0, x1, u⟩ a w
  revert x0 x1
  intro (x0 : (List Int)) (x1 : Int) hpre hlens h
  replace h : At w0 Z0 [] 12 ⟨[(0, aF (.int 3) x0), (1, aI x1)], []⟩ a w := h
  replace hpre : (pSz s22) x0 x1 := hpre
  have hl1 : List.length x0 ≤ 9223372036854775807 := hlens.1.1
  have hT : TabOK Try.prog S_laws_szIntS_tab := .nil
  have hp : 0 ≤ x1 ∧ x1 ≤ 9223372036854775807 := hpre
  refine wp_seq ?_
  refine at_regq (T := S_laws_szIntS_tab) [] { ts := [0, 1, 4], os := [] } [] gamOK hT h (by kernel_rfl) trivial ?_
  intro a w h
  refine then_normal ?_
  refine wp_seq ?_
  refine at_regq (T := S_laws_szIntS_tab) [{}, {}, {}, { nw := true }] { ts := [1, 4], os := [] } [I64 (x1 - ((List.length x0 : Nat) : Int))] gamOK hT h (by kernel_rfl) ⟨⟨by first | omega | (simp only [List.length_append, List.length_cons, List.length_nil, List.length_set, List.length_take, List.length_drop, List.length_replicate, List.length_map, Nat.min_def]; omega) | (simp; done) | (simp; omega) | done, by first | omega | (simp only [List.length_append, List.length_cons, List.length_nil, List.length_set, List.length_take, List.length_drop, List.length_replicate, List.length_map, Nat.min_def]; omega) | (simp; done) | (simp; omega) | done⟩, trivial⟩ ?_
  intro a w h
  refine then_normal ?_
  refine wp_seq ?_
  refine wp_seq ?_
  refine at_regq (T := S_laws_szIntS_tab) [] { ts := [1, 4, 10], os := [] } [] gamOK hT h (by kernel_rfl) trivial ?_
  intro a w h
  refine then_normal ?_
  refine at_test (decide (x1 - ((List.length x0 : Nat) : Int) < 0)) h (by kernel_rfl) (fun h1 => ?_) (fun h1 => ?_)
  · replace h1 : x1 - ((List.length x0 : Nat) : Int) < 0 := of_decide_eq_true h1
    refine wp_seq ?_
    refine at_reg (T := S_laws_szIntS_tab) [] { ts := [1, 4], os := [] } ⟨[(1, aI (x1 - ((List.length x0 : Nat) : Int))), (4, aI (-1))], []⟩ [] gamOK hT h (by kernel_rfl) trivial ?_
    intro a w h
    refine then_normal ?_
    refine wp_ret ?_
    refine then_ret ?_
    exact at_return (S := S_laws_szIntS) (x := (x0, x1, ())) ((-1), ()) [] h (by kernel_rfl) trivial (congrArg (fun z => (z, ())) (show ((-1)) = (szD s22) x0 x1 from by exact (szD_no (by rw [sz_flat (by rfl)]; omega)).symm))
  · replace h1 : ¬ (x1 - ((List.length x0 : Nat) : Int) < 0) := of_decide_eq_false h1
    refine wp_skip ?_
    refine then_normal ?_
    refine wp_seq ?_
    refine at_reg (T := S_laws_szIntS_tab) [] { ts := [4], os := [] } ⟨[(4, aI (x1 - ((List.length x0 : Nat) : Int)))], []⟩ [] gamOK hT h (by kernel_rfl) trivial ?_
    intro a w h
    refine then_normal ?_
    refine wp_ret ?_
    exact at_return (S := S_laws_szIntS) (x := (x0, x1, ())) (x1 - ((List.length x0 : Nat) : Int), ()) [] h (by kernel_rfl) trivial (congrArg (fun z => (z, ())) (show (x1 - ((List.length x0 : Nat) : Int)) = (szD s22) x0 x1 from by exact ((szD_ok (by rw [sz_flat (by rfl)]; omega)).trans (by rw [sz_flat (by rfl)])).symm))

def S_laws_szCodedPacket : Sum := { fid := 53, dom := [s44, (.int 3)], cod := [(.int 3)], dp := true, fz := false, pre := fun x => (pSz s44) x.1 x.2.1, g := fun x => (((szD s44) x.1 x.2.1), ()) }
def S_laws_szCodedPacket_tab : List (Nat × Sum) := [(80, S_laws_szIntS)]
theorem S_laws_szCodedPacket_ok : FnOK Try.prog 53 S_laws_szCodedPacket := by
  refine at_enter 18 (fun x => ⟨[(0, aG [cI x.1.1, .ro (.int 3) x.1.2.1, .ro (.int 3) x.1.2.2]), (1, aI x.2.1)], []⟩) Try.func53 rfl (by kernel_rfl) (fun x => rfl) ?_
  rintro w0 Z0 ⟨x0, x1, u⟩ a w
  revert x0 x1
  intro (x0 : T44) (x1 : Int) hpre hlens h
  replace h : At w0 Z0 [] 18 ⟨[(0, aG [cI x0.1, .ro (.int 3) x0.2.1, .ro (.int 3) x0.2.2]), (1, aI x1)], []⟩ a w := h
  replace hpre : (pSz s44) x0 x1 := hpre
  have hl1 : List.length x0.2.1 ≤ 9223372036854775807 := hlens.1.2.1.1
  have hl2 : List.length x0.2.2 ≤ 9223372036854775807 := hlens.1.2.2.1
  have hT : TabOK Try.prog S_laws_szCodedPacket_tab := (.cons S_laws_szIntS_ok .nil)
  have hp : 0 ≤ x1 ∧ x1 ≤ 9223372036854775807 := hpre
  have hsz : Sh.sz s44 x0 = (0 + ((Sh.sz s22 x0.2.1) + (Sh.sz s22 x0.2.2))) := rfl
  refine wp_seq ?_
  refine at_regq (T := S_laws_szCodedPacket_tab) [{ ids := [1] }] { ts := [1, 2, 4], os := [1] } [] gamOK hT h (by kernel_rfl) trivial ?_
  intro a w h
  refine then_normal ?_
  refine wp_seq ?_
  refine at_regq (T := S_laws_szCodedPacket_tab) [] { ts := [1, 2, 4], os := [1] } [(pSz s22) x0.2.1 x1] gamOK hT h (by kernel_rfl) ⟨(by (show (0 : Int) ≤ _ ∧ _ ≤ (9223372036854775807 : Int); constructor <;> omega)), trivial⟩ ?_
  intro a w h
  refine then_normal ?_
  refine wp_seq ?_
  refine wp_seq ?_
  refine at_regq (T := S_laws_szCodedPacket_tab) [] { ts := [1, 2, 4, 10], os := [1] } [] gamOK hT h (by kernel_rfl) trivial ?_
  intro a w h
  refine then_normal ?_
  refine at_test (decide (((szD s22) x0.2.1 x1) < 0)) h (by kernel_rfl) (fun h1 => ?_) (fun h1 => ?_)
  · replace h1 : ((szD s22) x0.2.1 x1) < 0 := of_decide_eq_true h1
    have hvh1 := szD_neg h1 (by omega)
    refine wp_seq ?_
    refine at_reg (T := S_laws_szCodedPacket_tab) [] { ts := [1, 2, 4], os := [1] } ⟨[(1, aI ((szD s22) x0.2.1 x1)), (2, aP 1 0), (4, aI (-1))], [(1, oX 44 [cI x0.1, .ro (.int 3) x0.2.1, .ro (.int 3) x0.2.2])]⟩ [] gamOK hT h (by kernel_rfl) trivial ?_
    intro a w h
    refine then_normal ?_
    refine wp_ret ?_
    refine then_ret ?_
    exact at_return (S := S_laws_szCodedPacket) (x := (x0, x1, ())) ((-1), ()) [] h (by kernel_rfl) trivial (congrArg (fun z => (z, ())) (show ((-1)) = (szD s44) x0 x1 from by (first | exact (szD_no (by omega)).symm | exact ((szD_ok (by omega)).trans (by omega)).symm)))
  · replace h1 : ¬ (((szD s22) x0.2.1 x1) < 0) := of_decide_eq_false h1
    have hvh1 := szD_val h1 (by omega)
    refine wp_skip ?_
    refine then_normal ?_
    refine wp_seq ?_
    refine at_reg (T := S_laws_szCodedPacket_tab) [] { ts := [1, 4], os := [] } ⟨[(1, aI ((szD s22) x0.2.2 ((szD s22) x0.2.1 x1))), (4, aI 0)], []⟩ [(pSz s22) x0.2.2 ((szD s22) x0.2.1 x1)] gamOK hT h (by kernel_rfl) ⟨(by (show (0 : Int) ≤ _ ∧ _ ≤ (9223372036854775807 : Int); constructor <;> omega)), trivial⟩ ?_
    intro a w h
    refine then_normal ?_
    refine wp_seq ?_
    refine wp_seq ?_
    refine at_regq (T := S_laws_szCodedPacket_tab) [] { ts := [1, 4, 16], os := [] } [] gamOK hT h (by kernel_rfl) trivial ?_
    intro a w h
    refine then_normal ?_
    refine at_test (decide (((szD s22) x0.2.2 ((szD s22) x0.2.1 x1)) < 0)) h (by kernel_rfl) (fun h2 => ?_) (fun h2 => ?_)
    · replace h2 : ((szD s22) x0.2.2 ((szD s22) x0.2.1 x1)) < 0 := of_decide_eq_true h2
      have hvh2 := szD_neg h2 (by omega)
      refine wp_seq ?_
      refine at_regq (T := S_laws_szCodedPacket_tab) [] { ts := [1, 4], os := [] } [] gamOK hT h (by kernel_rfl) trivial ?_
      intro a w h
      refine then_normal ?_
      refine wp_ret ?_
      refine then_ret ?_
      exact at_return (S := S_laws_szCodedPacket) (x := (x0, x1, ())) ((-1), ()) [] h (by kernel_rfl) trivial (congrArg (fun z => (z, ())) (show ((-1)) = (szD s44) x0 x1 from by (first | exact (szD_no (by omega)).symm | exact ((szD_ok (by omega)).trans (by omega)).symm)))
    · replace h2 : ¬ (((szD s22) x0.2.2 ((szD s22) x0.2.1 x1)) < 0) := of_decide_eq_false h2
      have hvh2 := szD_val h2 (by omega)
      refine wp_skip ?_
      refine then_normal ?_
      refine wp_seq ?_
      refine at_regq (T := S_laws_szCodedPacket_tab) [] { ts := [4], os := [] } [] gamOK hT h (by kernel_rfl) trivial ?_
      intro a w h
      refine then_normal ?_
      refine wp_ret ?_
      exact at_return (S := S_laws_szCodedPacket) (x := (x0, x1, ())) (((szD s22) x0.2.2 ((szD s22) x0.2.1 x1)), ()) [] h (by kernel_rfl) trivial (congrArg (fun z => (z, ())) (show (((szD s22) x0.2.2 ((szD s22) x0.2.1 x1))) = (szD s44) x0 x1 from by (first | exact (szD_no (by omega)).symm | exact ((szD_ok (by omega)).trans (by omega)).symm)))

def S_laws_szHashKey : Sum := { fid := 18, dom := [s40, (.int 3)], cod := [(.int 3)], dp := true, fz := false, pre := fun x => (pSz s40) x.1 x.2.1, g := fun x => (((szD s40) x.1 x.2.1), ()) }
def S_laws_szHashKey_tab : List (Nat × Sum) := [(80, S_laws_szIntS)]
theorem S_laws_szHashKey_ok : FnOK Try.prog 18 S_laws_szHashKey := by
  refine at_enter 12 (fun x => ⟨[(0, aG [.ro (.int 3) x.1]), (1, aI x.2.1)], []⟩) Try.func18 rfl (by kernel_rfl) (fun x => rfl) ?_
  rintro w0 Z0 ⟨x0, x1, u⟩ a w
  revert x0 x1
  intro (x0 : (List Int)) (x1 : Int) hpre hlens h
  replace h : At w0 Z0 [] 12 ⟨[(0, aG [.ro (.int 3) x0]), (1, aI x1)], []⟩ a w := h
  replace hpre : (pSz s40) x0 x1 := hpre
  have hl1 : List.length x0 ≤ 9223372036854775807 := hlens.1.1
  have hT : TabOK Try.prog S_laws_szHashKey_tab := (.cons S_laws_szIntS_ok .nil)
  have hp : 0 ≤ x1 ∧ x1 ≤ 9223372036854775807 := hpre
  have hsz : Sh.sz s40 x0 = (Sh.sz s22 x0) := rfl
  refine wp_seq ?_
  refine at_regq (T := S_laws_szHashKey_tab) [{ ids := [1] }] { ts := [1, 2, 4], os := [1] } [] gamOK hT h (by kernel_rfl) trivial ?_
  intro a w h
  refine then_normal ?_
  refine wp_seq ?_
  refine at_regq (T := S_laws_szHashKey_tab) [] { ts := [1, 4], os := [] } [(pSz s22) x0 x1] gamOK hT h (by kernel_rfl) ⟨(by (show (0 : Int) ≤ _ ∧ _ ≤ (9223372036854775807 : Int); constructor <;> omega)), trivial⟩ ?_
  intro a w h
  refine then_normal ?_
  refine wp_seq ?_
  refine wp_seq ?_
  refine at_regq (T := S_laws_szHashKey_tab) [] { ts := [1, 4, 10], os := [] } [] gamOK hT h (by kernel_rfl) trivial ?_
  intro a w h
  refine then_normal ?_
  refine at_test (decide (((szD s22) x0 x1) < 0)) h (by kernel_rfl) (fun h1 => ?_) (fun h1 => ?_)
  · replace h1 : ((szD s22) x0 x1) < 0 := of_decide_eq_true h1
    have hvh1 := szD_neg h1 (by omega)
    refine wp_seq ?_
    refine at_reg (T := S_laws_szHashKey_tab) [] { ts := [1, 4], os := [] } ⟨[(1, aI ((szD s22) x0 x1)), (4, aI (-1))], []⟩ [] gamOK hT h (by kernel_rfl) trivial ?_
    intro a w h
    refine then_normal ?_
    refine wp_ret ?_
    refine then_ret ?_
    exact at_return (S := S_laws_szHashKey) (x := (x0, x1, ())) ((-1), ()) [] h (by kernel_rfl) trivial (congrArg (fun z => (z, ())) (show ((-1)) = (szD s40) x0 x1 from by (first | exact (szD_no (by omega)).symm | exact ((szD_ok (by omega)).trans (by omega)).symm)))
  · replace h1 : ¬ (((szD s22) x0 x1) < 0) := of_decide_eq_false h1
    have hvh1 := szD_val h1 (by omega)
    refine wp_skip ?_
    refine then_normal ?_
    refine wp_seq ?_
    refine at_reg (T := S_laws_szHashKey_tab) [] { ts := [4], os := [] } ⟨[(4, aI ((szD s22) x0 x1))], []⟩ [] gamOK hT h (by kernel_rfl) trivial ?_
    intro a w h
    refine then_normal ?_
    refine wp_ret ?_
    exact at_return (S := S_laws_szHashKey) (x := (x0, x1, ())) (((szD s22) x0 x1), ()) [] h (by kernel_rfl) trivial (congrArg (fun z => (z, ())) (show (((szD s22) x0 x1)) = (szD s40) x0 x1 from by (first | exact (szD_no (by omega)).symm | exact ((szD_ok (by omega)).trans (by omega)).symm)))

def S_laws_szProofS : Sum := { fid := 91, dom := [s36, (.int 3)], cod := [(.int 3)], dp := true, fz := false, pre := fun x => (pSz s36) x.1 x.2.1, g := fun x => (((szD s36) x.1 x.2.1), ()) }
def S_laws_szProofS_tab : List (Nat × Sum) := []
theorem S_laws_szProofS_ok : FnOK Try.prog 91 S_laws_szProofS := by
  refine at_enter 12 (fun x => ⟨[(0, aF s237 x.1), (1, aI x.2.1)], []⟩) Try.func91 rfl (by kernel_rfl) (fun x => rfl) ?_
  rintro w0 Z0 ⟨x0, x1, u⟩ a w
  revert x0 x1
  intro (x0 : (List T237)) (x1 : Int) hpre hlens h
  replace h : At w0 Z0 [] 12 ⟨[(0, aF s237 x0), (1, aI x1)], []⟩ a w := h
  replace hpre : (pSz s36) x0 x1 := hpre
  have hl1 : List.length x0 ≤ 9223372036854775807 := hlens.1.1
  have hT : TabOK Try.prog S_laws_szProofS_tab := .nil
  have hp : 0 ≤ x1 ∧ x1 ≤ 9223372036854775807 := hpre
  refine wp_seq ?_
  refine at_regq (T := S_laws_szProofS_tab) [] { ts := [0, 1, 4], os := [] } [] gamOK hT h (by kernel_rfl) trivial ?_
  intro a w h
  refine then_normal ?_
  refine wp_seq ?_
  refine at_regq (T := S_laws_szProofS_tab) [{}, {}, {}, { nw := true }] { ts := [1, 4], os := [] } [I64 (x1 - ((List.length x0 : Nat) : Int))] gamOK hT h (by kernel_rfl) ⟨⟨by first | omega | (simp only [List.length_append, List.length_cons, List.length_nil, List.length_set, List.length_take, List.length_drop, List.length_replicate, List.length_map, Nat.min_def]; omega) | (simp; done) | (simp; omega) | done, by first | omega | (simp only [List.length_append, List.length_cons, List.length_nil, List.length_set, List.length_take, List.length_drop, List.length_replicate, List.length_map, Nat.min_def]; omega) | (simp; done) | (simp; omega) | done⟩, trivial⟩ ?_
  intro a w h
  refine then_normal ?_
  refine wp_seq ?_
  refine wp_seq ?_
  refine at_regq (T := S_laws_szProofS_tab) [] { ts := [1, 4, 10], os := [] } [] gamOK hT h (by kernel_rfl) trivial ?_
  intro a w h
  refine then_normal ?_
  refine at_test (decide (x1 - ((List.length x0 : Nat) : Int) < 0)) h (by kernel_rfl) (fun h1 => ?_) (fun h1 => ?_)
  · replace h1 : x1 - ((List.length x0 : Nat) : Int) < 0 := of_decide_eq_true h1
    refine wp_seq ?_
    refine at_reg (T := S_laws_szProofS_tab) [] { ts := [1, 4], os := [] } ⟨[(1, aI (x1 - ((List.length x0 : Nat) : Int))), (4, aI (-1))], []⟩ [] gamOK hT h (by kernel_rfl) trivial ?_
    intro a w h
    refine then_normal ?_
    refine wp_ret ?_
    refine then_ret ?_
    exact at_return (S := S_laws_szProofS) (x := (x0, x1, ())) ((-1), ()) [] h (by kernel_rfl) trivial (congrArg (fun z => (z, ())) (show ((-1)) = (szD s36) x0 x1 from by exact (szD_no (by rw [sz_flat (by rfl)]; omega)).symm))
  · replace h1 : ¬ (x1 - ((List.length x0 : Nat) : Int) < 0) := of_decide_eq_false h1
    refine wp_skip ?_
    refine then_normal ?_
    refine wp_seq ?_
    refine at_reg (T := S_laws_szProofS_tab) [] { ts := [4], os := [] } ⟨[(4, aI (x1 - ((List.length x0 : Nat) : Int)))], []⟩ [] gamOK hT h (by kernel_rfl) trivial ?_
    intro a w h
    refine then_normal ?_
    refine wp_ret ?_
    exact at_return (S := S_laws_szProofS) (x := (x0, x1, ())) (x1 - ((List.length x0 : Nat) : Int), ()) [] h (by kernel_rfl) trivial (congrArg (fun z => (z, ())) (show (x1 - ((List.length x0 : Nat) : Int)) = (szD s36) x0 x1 from by exact ((szD_ok (by rw [sz_flat (by rfl)]; omega)).trans (by rw [sz_flat (by rfl)])).symm))

def S_laws_szLedger : Sum := { fid := 17, dom := [s38, (.int 3)], cod := [(.int 3)], dp := true, fz := false, pre := fun x => (pSz s38) x.1 x.2.1, g := fun x => (((szD s38) x.1 x.2.1), ()) }
def S_laws_szLedger_tab : List (Nat × Sum) := [(91, S_laws_szProofS)]
theorem S_laws_szLedger_ok : FnOK Try.prog 17 S_laws_szLedger := by
  refine at_enter 12 (fun x => ⟨[(0, aG [.ro s237 x.1]), (1, aI x.2.1)], []⟩) Try.func17 rfl (by kernel_rfl) (fun x => rfl) ?_
  rintro w0 Z0 ⟨x0, x1, u⟩ a w
  revert x0 x1
  intro (x0 : (List T237)) (x1 : Int) hpre hlens h
  replace h : At w0 Z0 [] 12 ⟨[(0, aG [.ro s237 x0]), (1, aI x1)], []⟩ a w := h
  replace hpre : (pSz s38) x0 x1 := hpre
  have hl1 : List.length x0 ≤ 9223372036854775807 := hlens.1.1
  have hT : TabOK Try.prog S_laws_szLedger_tab := (.cons S_laws_szProofS_ok .nil)
  have hp : 0 ≤ x1 ∧ x1 ≤ 9223372036854775807 := hpre
  have hsz : Sh.sz s38 x0 = (Sh.sz s36 x0) := rfl
  refine wp_seq ?_
  refine at_regq (T := S_laws_szLedger_tab) [{ ids := [1] }] { ts := [1, 2, 4], os := [1] } [] gamOK hT h (by kernel_rfl) trivial ?_
  intro a w h
  refine then_normal ?_
  refine wp_seq ?_
  refine at_regq (T := S_laws_szLedger_tab) [] { ts := [1, 4], os := [] } [(pSz s36) x0 x1] gamOK hT h (by kernel_rfl) ⟨(by (show (0 : Int) ≤ _ ∧ _ ≤ (9223372036854775807 : Int); constructor <;> omega)), trivial⟩ ?_
  intro a w h
  refine then_normal ?_
  refine wp_seq ?_
  refine wp_seq ?_
  refine at_regq (T := S_laws_szLedger_tab) [] { ts := [1, 4, 10], os := [] } [] gamOK hT h (by kernel_rfl) trivial ?_
  intro a w h
  refine then_normal ?_
  refine at_test (decide (((szD s36) x0 x1) < 0)) h (by kernel_rfl) (fun h1 => ?_) (fun h1 => ?_)
  · replace h1 : ((szD s36) x0 x1) < 0 := of_decide_eq_true h1
    have hvh1 := szD_neg h1 (by omega)
    refine wp_seq ?_
    refine at_reg (T := S_laws_szLedger_tab) [] { ts := [1, 4], os := [] } ⟨[(1, aI ((szD s36) x0 x1)), (4, aI (-1))], []⟩ [] gamOK hT h (by kernel_rfl) trivial ?_
    intro a w h
    refine then_normal ?_
    refine wp_ret ?_
    refine then_ret ?_
    exact at_return (S := S_laws_szLedger) (x := (x0, x1, ())) ((-1), ()) [] h (by kernel_rfl) trivial (congrArg (fun z => (z, ())) (show ((-1)) = (szD s38) x0 x1 from by (first | exact (szD_no (by omega)).symm | exact ((szD_ok (by omega)).trans (by omega)).symm)))
  · replace h1 : ¬ (((szD s36) x0 x1) < 0) := of_decide_eq_false h1
    have hvh1 := szD_val h1 (by omega)
    refine wp_skip ?_
    refine then_normal ?_
    refine wp_seq ?_
    refine at_reg (T := S_laws_szLedger_tab) [] { ts := [4], os := [] } ⟨[(4, aI ((szD s36) x0 x1))], []⟩ [] gamOK hT h (by kernel_rfl) trivial ?_
    intro a w h
    refine then_normal ?_
    refine wp_ret ?_
    exact at_return (S := S_laws_szLedger) (x := (x0, x1, ())) (((szD s36) x0 x1), ()) [] h (by kernel_rfl) trivial (congrArg (fun z => (z, ())) (show (((szD s36) x0 x1)) = (szD s38) x0 x1 from by (first | exact (szD_no (by omega)).symm | exact ((szD_ok (by omega)).trans (by omega)).symm)))

def S_laws_szLinkPacket : Sum := { fid := 20, dom := [s46, (.int 3)], cod := [(.int 3)], dp := true, fz := false, pre := fun x => (pSz s46) x.1 x.2.1, g := fun x => (((szD s46) x.1 x.2.1), ()) }
def S_laws_szLinkPacket_tab : List (Nat × Sum) := [(53, S_laws_szCodedPacket)]
theorem S_laws_szLinkPacket_ok : FnOK Try.prog 20 S_laws_szLinkPacket := by
  refine at_enter 12 (fun x => ⟨[(0, aG [cI x.1.1, cI x.1.2.1, cI x.1.2.2.1, cI x.1.2.2.2.1.1, .ro (.int 3) x.1.2.2.2.1.2.1, .ro (.int 3) x.1.2.2.2.1.2.2, cI x.1.2.2.2.2]), (1, aI x.2.1)], []⟩) Try.func20 rfl (by kernel_rfl) (fun x => rfl) ?_
  rintro w0 Z0 ⟨x0, x1, u⟩ a w
  revert x0 x1
  intro (x0 : T46) (x1 : Int) hpre hlens h
  replace h : At w0 Z0 [] 12 ⟨[(0, aG [cI x0.1, cI x0.2.1, cI x0.2.2.1, cI x0.2.2.2.1.1, .ro (.int 3) x0.2.2.2.1.2.1, .ro (.int 3) x0.2.2.2.1.2.2, cI x0.2.2.2.2]), (1, aI x1)], []⟩ a w := h
  replace hpre : (pSz s46) x0 x1 := hpre
  have hl1 : List.length x0.2.2.2.1.2.1 ≤ 9223372036854775807 := hlens.1.2.2.2.1.2.1.1
  have hl2 : List.length x0.2.2.2.1.2.2 ≤ 9223372036854775807 := hlens.1.2.2.2.1.2.2.1
  have hT : TabOK Try.prog S_laws_szLinkPacket_tab := (.cons S_laws_szCodedPacket_ok .nil)
  have hp : 0 ≤ x1 ∧ x1 ≤ 9223372036854775807 := hpre
  have hsz : Sh.sz s46 x0 = (0 + (0 + (0 + ((Sh.sz s44 x0.2.2.2.1) + 0)))) := rfl
  refine wp_seq ?_
  refine at_regq (T := S_laws_szLinkPacket_tab) [{ ids := [1] }] { ts := [1, 2, 4], os := [1] } [] gamOK hT h (by kernel_rfl) trivial ?_
  intro a w h
  refine then_normal ?_
  refine wp_seq ?_
  refine at_regq (T := S_laws_szLinkPacket_tab) [] { ts := [1, 4], os := [] } [(pSz s44) x0.2.2.2.1 x1] gamOK hT h (by kernel_rfl) ⟨(by (show (0 : Int) ≤ _ ∧ _ ≤ (9223372036854775807 : Int); constructor <;> omega)), trivial⟩ ?_
  intro a w h
  refine then_normal ?_
  refine wp_seq ?_
  refine wp_seq ?_
  refine at_regq (T := S_laws_szLinkPacket_tab) [] { ts := [1, 4, 10], os := [] } [] gamOK hT h (by kernel_rfl) trivial ?_
  intro a w h
  refine then_normal ?_
  refine at_test (decide (((szD s44) x0.2.2.2.1 x1) < 0)) h (by kernel_rfl) (fun h1 => ?_) (fun h1 => ?_)
  · replace h1 : ((szD s44) x0.2.2.2.1 x1) < 0 := of_decide_eq_true h1
    have hvh1 := szD_neg h1 (by omega)
    refine wp_seq ?_
    refine at_reg (T := S_laws_szLinkPacket_tab) [] { ts := [1, 4], os := [] } ⟨[(1, aI ((szD s44) x0.2.2.2.1 x1)), (4, aI (-1))], []⟩ [] gamOK hT h (by kernel_rfl) trivial ?_
    intro a w h
    refine then_normal ?_
    refine wp_ret ?_
    refine then_ret ?_
    exact at_return (S := S_laws_szLinkPacket) (x := (x0, x1, ())) ((-1), ()) [] h (by kernel_rfl) trivial (congrArg (fun z => (z, ())) (show ((-1)) = (szD s46) x0 x1 from by (first | exact (szD_no (by omega)).symm | exact ((szD_ok (by omega)).trans (by omega)).symm)))
  · replace h1 : ¬ (((szD s44) x0.2.2.2.1 x1) < 0) := of_decide_eq_false h1
    have hvh1 := szD_val h1 (by omega)
    refine wp_skip ?_
    refine then_normal ?_
    refine wp_seq ?_
    refine at_reg (T := S_laws_szLinkPacket_tab) [] { ts := [4], os := [] } ⟨[(4, aI ((szD s44) x0.2.2.2.1 x1))], []⟩ [] gamOK hT h (by kernel_rfl) trivial ?_
    intro a w h
    refine then_normal ?_
    refine wp_ret ?_
    exact at_return (S := S_laws_szLinkPacket) (x := (x0, x1, ())) (((szD s44) x0.2.2.2.1 x1), ()) [] h (by kernel_rfl) trivial (congrArg (fun z => (z, ())) (show (((szD s44) x0.2.2.2.1 x1)) = (szD s46) x0 x1 from by (first | exact (szD_no (by omega)).symm | exact ((szD_ok (by omega)).trans (by omega)).symm)))

def S_laws_szManifest : Sum := { fid := 19, dom := [s42, (.int 3)], cod := [(.int 3)], dp := true, fz := false, pre := fun x => (pSz s42) x.1 x.2.1, g := fun x => (((szD s42) x.1 x.2.1), ()) }
def S_laws_szManifest_tab : List (Nat × Sum) := [(80, S_laws_szIntS)]
theorem S_laws_szManifest_ok : FnOK Try.prog 19 S_laws_szManifest := by
  refine at_enter 12 (fun x => ⟨[(0, aG [cI x.1.1, cI x.1.2.1, cI x.1.2.2.1, cI x.1.2.2.2.1, .ro (.int 3) x.1.2.2.2.2.1, cI x.1.2.2.2.2.2]), (1, aI x.2.1)], []⟩) Try.func19 rfl (by kernel_rfl) (fun x => rfl) ?_
  rintro w0 Z0 ⟨x0, x1, u⟩ a w
  revert x0 x1
  intro (x0 : T42) (x1 : Int) hpre hlens h
  replace h : At w0 Z0 [] 12 ⟨[(0, aG [cI x0.1, cI x0.2.1, cI x0.2.2.1, cI x0.2.2.2.1, .ro (.int 3) x0.2.2.2.2.1, cI x0.2.2.2.2.2]), (1, aI x1)], []⟩ a w := h
  replace hpre : (pSz s42) x0 x1 := hpre
  have hl1 : List.length x0.2.2.2.2.1 ≤ 9223372036854775807 := hlens.1.2.2.2.2.1.1
  have hT : TabOK Try.prog S_laws_szManifest_tab := (.cons S_laws_szIntS_ok .nil)
  have hp : 0 ≤ x1 ∧ x1 ≤ 9223372036854775807 := hpre
  have hsz : Sh.sz s42 x0 = (0 + (0 + (0 + (0 + ((Sh.sz s22 x0.2.2.2.2.1) + 0))))) := rfl
  refine wp_seq ?_
  refine at_regq (T := S_laws_szManifest_tab) [{ ids := [1] }] { ts := [1, 2, 4], os := [1] } [] gamOK hT h (by kernel_rfl) trivial ?_
  intro a w h
  refine then_normal ?_
  refine wp_seq ?_
  refine at_regq (T := S_laws_szManifest_tab) [] { ts := [1, 4], os := [] } [(pSz s22) x0.2.2.2.2.1 x1] gamOK hT h (by kernel_rfl) ⟨(by (show (0 : Int) ≤ _ ∧ _ ≤ (9223372036854775807 : Int); constructor <;> omega)), trivial⟩ ?_
  intro a w h
  refine then_normal ?_
  refine wp_seq ?_
  refine wp_seq ?_
  refine at_regq (T := S_laws_szManifest_tab) [] { ts := [1, 4, 10], os := [] } [] gamOK hT h (by kernel_rfl) trivial ?_
  intro a w h
  refine then_normal ?_
  refine at_test (decide (((szD s22) x0.2.2.2.2.1 x1) < 0)) h (by kernel_rfl) (fun h1 => ?_) (fun h1 => ?_)
  · replace h1 : ((szD s22) x0.2.2.2.2.1 x1) < 0 := of_decide_eq_true h1
    have hvh1 := szD_neg h1 (by omega)
    refine wp_seq ?_
    refine at_reg (T := S_laws_szManifest_tab) [] { ts := [1, 4], os := [] } ⟨[(1, aI ((szD s22) x0.2.2.2.2.1 x1)), (4, aI (-1))], []⟩ [] gamOK hT h (by kernel_rfl) trivial ?_
    intro a w h
    refine then_normal ?_
    refine wp_ret ?_
    refine then_ret ?_
    exact at_return (S := S_laws_szManifest) (x := (x0, x1, ())) ((-1), ()) [] h (by kernel_rfl) trivial (congrArg (fun z => (z, ())) (show ((-1)) = (szD s42) x0 x1 from by (first | exact (szD_no (by omega)).symm | exact ((szD_ok (by omega)).trans (by omega)).symm)))
  · replace h1 : ¬ (((szD s22) x0.2.2.2.2.1 x1) < 0) := of_decide_eq_false h1
    have hvh1 := szD_val h1 (by omega)
    refine wp_skip ?_
    refine then_normal ?_
    refine wp_seq ?_
    refine at_reg (T := S_laws_szManifest_tab) [] { ts := [4], os := [] } ⟨[(4, aI ((szD s22) x0.2.2.2.2.1 x1))], []⟩ [] gamOK hT h (by kernel_rfl) trivial ?_
    intro a w h
    refine then_normal ?_
    refine wp_ret ?_
    exact at_return (S := S_laws_szManifest) (x := (x0, x1, ())) (((szD s22) x0.2.2.2.2.1 x1), ()) [] h (by kernel_rfl) trivial (congrArg (fun z => (z, ())) (show (((szD s22) x0.2.2.2.2.1 x1)) = (szD s42) x0 x1 from by (first | exact (szD_no (by omega)).symm | exact ((szD_ok (by omega)).trans (by omega)).symm)))

def S_laws_toIntS : Sum := { fid := 84, dom := [s22], cod := [s22], dp := true, fz := false, pre := fun x => (pTo s22) x.1, g := fun x => (((idD s22) x.1), ()) }
def S_laws_toIntS_tab : List (Nat × Sum) := []
theorem S_laws_toIntS_ok : FnOK Try.prog 84 S_laws_toIntS := by
  refine at_enter 22 (fun x => ⟨[(0, aF (.int 3) x.1)], []⟩) Try.func84 rfl (by kernel_rfl) (fun x => rfl) ?_
  rintro w0 Z0 ⟨x0, u⟩ a w
  revert x0
  intro (x0 : (List Int)) hpre hlens h
  replace h : At w0 Z0 [] 22 ⟨[(0, aF (.int 3) x0)], []⟩ a w := h
  replace hpre : (pTo s22) x0 := hpre
  have hl1 : List.length x0 ≤ 9223372036854775807 := hlens.1.1
  have hT : TabOK Try.prog S_laws_toIntS_tab := .nil
  have hp : Sh.sz s22 x0 ≤ 1048576 := hpre
  have hsz : Sh.sz s22 x0 = List.length x0 + ctL (Sh.sz (.int 3)) x0 := rfl
  refine wp_seq ?_
  refine at_regq (T := S_laws_toIntS_tab) [] { ts := [0, 2], os := [] } [] gamOK hT h (by kernel_rfl) trivial ?_
  intro a w h
  refine then_normal ?_
  refine wp_seq ?_
  refine at_regq (T := S_laws_toIntS_tab) [{}, {}, { ids := [1] }] { ts := [0, 2, 3], os := [1] } [(0 : Int) ≤ ((List.length x0 : Nat) : Int) ∧ ((List.length x0 : Nat) : Int) = ((List.length x0 : Nat) : Int) ∧ ((List.length x0 : Nat) : Int) * (8 : Nat) ≤ (140737488355328 : Int)] gamOK hT h (by kernel_rfl) ⟨(by refine ⟨?_, ?_, ?_⟩ <;> ((have hA0 := mul_f ((List.length x0 : Nat) : Int) (8 : Nat); first | omega | (simp only [List.length_append, List.length_cons, List.length_nil, List.length_set, List.length_take, List.length_drop, List.length_replicate, List.length_map, Nat.min_def, copyTo_len hok0]; omega) | (simp; done) | (simp; omega) | done))), trivial⟩ ?_
  intro a w h
  refine then_normal ?_
  refine wp_seq ?_
  refine wp_seq ?_
  refine at_regq (T := S_laws_toIntS_tab) [] { ts := [0, 2, 3, 4], os := [1] } [] gamOK hT h (by kernel_rfl) trivial ?_
  intro a w h
  refine then_normal ?_
  refine wp_block ?_
  replace h := at_out (σ' := ⟨[(0, aF (.int 3) x0), (2, .p (.c (cN))), (3, aS 1), (4, aI 0)], [(1, oR (.int 3) (List.replicate (List.length x0) (0 : Int)))]⟩) { ts := [0, 2, 3, 4], os := [1] } h (by kernel_rfl)
  refine at_loop (fun i : Nat => (⟨[(0, aF (.int 3) x0), (2, .p (.c (cN))), (3, aS 1), (4, aI ((i : Nat) : Int))], [(1, oR (.int 3) (copyTo 0 x0 i))]⟩ : St)) (fun i => i ≤ List.length x0) (fun i => List.length x0 - i) (0) h (st_congr2 (fun (d0 : List Int) (d1 : Int) => (⟨[(0, aF (.int 3) x0), (2, .p (.c (cN))), (3, aS 1), (4, aI d1)], [(1, oR (.int 3) d0)]⟩ : St)) (show ((List.replicate (List.length x0) (0 : Int)) : List Int) = (copyTo 0 x0 (0)) from by first | with_reducible rfl | (exact copyTo_zero) | rfl) (show (0 : Int) = (((0) : Nat) : Int) from by first | with_reducible rfl | (exact copyTo_zero) | rfl)) (by first | omega | simp | (refine ⟨?_, ?_⟩ <;> first | omega | simp)) ?_
  intro i a w hok0 h
  refine wp_seq ?_
  refine wp_seq ?_
  refine at_reg (T := S_laws_toIntS_tab) [] { ts := [0, 2, 3, 4, 11], os := [1] } ⟨[(0, aF (.int 3) x0), (2, .p (.c (cN))), (3, aS 1), (4, aI ((i : Nat) : Int)), (11, aB (decide (((i : Nat) : Int) < ((List.length x0 : Nat) : Int))))], [(1, oR (.int 3) (copyTo 0 x0 i))]⟩ [] gamOK hT h (by kernel_rfl) trivial ?_
  intro a w h
  refine then_normal ?_
  refine at_test (decide (((i : Nat) : Int) < ((List.length x0 : Nat) : Int))) h (by kernel_rfl) (fun h1 => ?_) (fun h1 => ?_)
  · replace h1 : ((i : Nat) : Int) < ((List.length x0 : Nat) : Int) := of_decide_eq_true h1
    have hat := ctL_at_le (c := Sh.sz (.int 3)) (xs := x0) (z := 0) (i := i) (by omega)
    refine wp_skip ?_
    refine then_normal ?_
    refine wp_seq ?_
    refine wp_block ?_
    refine at_regq (T := S_laws_toIntS_tab) [] { ts := [0, 2, 3, 4], os := [1] } [(0 : Int) ≤ ((i : Nat) : Int) ∧ ((i : Nat) : Int) < ((List.length x0 : Nat) : Int), (0 : Int) ≤ ((i : Nat) : Int) ∧ ((i : Nat) : Int) < ((List.length (copyTo 0 x0 i) : Nat) : Int), i < List.length (copyTo 0 x0 i)] gamOK hT h (by kernel_rfl) ⟨(by refine ⟨?_, ?_⟩ <;> (first | omega | (simp only [List.length_append, List.length_cons, List.length_nil, List.length_set, List.length_take, List.length_drop, List.length_replicate, List.length_map, Nat.min_def, copyTo_len hok0]; omega) | (simp; done) | (simp; omega) | done)), (by refine ⟨?_, ?_⟩ <;> (first | omega | (simp only [List.length_append, List.length_cons, List.length_nil, List.length_set, List.length_take, List.length_drop, List.length_replicate, List.length_map, Nat.min_def, copyTo_len hok0]; omega) | (simp; done) | (simp; omega) | done)), (by first | omega | (simp only [List.length_append, List.length_cons, List.length_nil, List.length_set, List.length_take, List.length_drop, List.length_replicate, List.length_map, Nat.min_def, copyTo_len hok0]; omega) | (simp; done) | (simp; omega) | done), trivial⟩ ?_
    intro a w h
    refine in_normal ?_
    refine then_normal ?_
    refine at_regq (T := S_laws_toIntS_tab) [{}, { nw := true }] { ts := [0, 2, 3, 4], os := [1] } [I64 (((i : Nat) : Int) + 1)] gamOK hT h (by kernel_rfl) ⟨⟨by first | omega | (simp only [List.length_append, List.length_cons, List.length_nil, List.length_set, List.length_take, List.length_drop, List.length_replicate, List.length_map, Nat.min_def, copyTo_len hok0]; omega) | (simp; done) | (simp; omega) | done, by first | omega | (simp only [List.length_append, List.length_cons, List.length_nil, List.length_set, List.length_take, List.length_drop, List.length_replicate, List.length_map, Nat.min_def, copyTo_len hok0]; omega) | (simp; done) | (simp; omega) | done⟩, trivial⟩ ?_
    intro a w h
    replace h := at_out (σ' := ⟨[(0, aF (.int 3) x0), (2, .p (.c (cN))), (3, aS 1), (4, aI (((i : Nat) : Int) + 1))], [(1, oR (.int 3) (List.set (copyTo 0 x0 i) i (x0.getD i 0)))]⟩) { ts := [0, 2, 3, 4], os := [1] } h (by kernel_rfl)
    exact ⟨i + 1, at_eq h (st_congr2 (fun (d0 : List Int) (d1 : Int) => (⟨[(0, aF (.int 3) x0), (2, .p (.c (cN))), (3, aS 1), (4, aI d1)], [(1, oR (.int 3) d0)]⟩ : St)) (show ((List.set (copyTo 0 x0 i) i (x0.getD i 0)) : List Int) = (copyTo 0 x0 (i + 1)) from by first | with_reducible rfl | (exact copyTo_set (by omega)) | rfl) (show (((i : Nat) : Int) + 1 : Int) = (((i + 1) : Nat) : Int) from by first | with_reducible rfl | (omega) | rfl)), (by first | omega | (refine ⟨?_, ?_⟩ <;> omega)), (by omega)⟩
  · replace h1 : ¬ (((i : Nat) : Int) < ((List.length x0 : Nat) : Int)) := of_decide_eq_false h1
    refine wp_exit ?_
    refine then_exit ?_
    refine then_exit ?_
    refine in_hit ?_
    refine then_normal ?_
    refine wp_seq ?_
    refine at_regq (T := S_laws_toIntS_tab) [] { ts := [2], os := [1] } [] gamOK hT h (by kernel_rfl) trivial ?_
    intro a w h
    refine then_normal ?_
    refine wp_ret ?_
    exact at_return (S := S_laws_toIntS) (x := (x0, ())) ((copyTo 0 x0 i), ()) [] h (by kernel_rfl) trivial (congrArg (fun z => (z, ())) (show ((copyTo 0 x0 i)) = (idD s22) x0 from by (rw [copyTo_all (by omega)]; rfl)))

def S_laws_toCodedPacket : Sum := { fid := 56, dom := [s44], cod := [s61], dp := true, fz := false, pre := fun x => (pTo s44) x.1, g := fun x => (((idD s44) x.1), ()) }
def S_laws_toCodedPacket_tab : List (Nat × Sum) := [(84, S_laws_toIntS)]
theorem S_laws_toCodedPacket_ok : FnOK Try.prog 56 S_laws_toCodedPacket := by
  refine at_enter 16 (fun x => ⟨[(0, aG [cI x.1.1, .ro (.int 3) x.1.2.1, .ro (.int 3) x.1.2.2])], []⟩) Try.func56 rfl (by kernel_rfl) (fun x => rfl) ?_
  rintro w0 Z0 ⟨x0, u⟩ a w
  revert x0
  intro (x0 : T44) hpre hlens h
  replace h : At w0 Z0 [] 16 ⟨[(0, aG [cI x0.1, .ro (.int 3) x0.2.1, .ro (.int 3) x0.2.2])], []⟩ a w := h
  replace hpre : (pTo s44) x0 := hpre
  have hl1 : List.length x0.2.1 ≤ 9223372036854775807 := hlens.1.2.1.1
  have hl2 : List.length x0.2.2 ≤ 9223372036854775807 := hlens.1.2.2.1
  have hT : TabOK Try.prog S_laws_toCodedPacket_tab := (.cons S_laws_toIntS_ok .nil)
  have hp : Sh.sz s44 x0 ≤ 1048576 := hpre
  have hsz : Sh.sz s44 x0 = (0 + ((Sh.sz s22 x0.2.1) + (Sh.sz s22 x0.2.2))) := rfl
  refine wp_seq ?_
  refine at_regq (T := S_laws_toCodedPacket_tab) [{ ids := [1] }, { ids := [2] }] { ts := [1, 2], os := [1, 2] } [] gamOK hT h (by kernel_rfl) trivial ?_
  intro a w h
  refine then_normal ?_
  refine wp_seq ?_
  refine at_regq (T := S_laws_toCodedPacket_tab) [{ ids := [3] }] { ts := [1, 2, 3], os := [1, 2, 3] } [] gamOK hT h (by kernel_rfl) trivial ?_
  intro a w h
  refine then_normal ?_
  refine wp_seq ?_
  refine at_regq (T := S_laws_toCodedPacket_tab) [] { ts := [1, 2, 3], os := [1, 2, 3] } [] gamOK hT h (by kernel_rfl) trivial ?_
  intro a w h
  refine then_normal ?_
  refine wp_seq ?_
  refine at_reg (T := S_laws_toCodedPacket_tab) [{}, {}, { ids := [4] }] { ts := [1, 2, 3], os := [1, 2, 3, 4] } ⟨[(1, aP 1 0), (2, aP 2 0), (3, aP 3 0)], [(1, oX 44 [cI x0.1, .ro (.int 3) x0.2.1, .ro (.int 3) x0.2.2]), (2, oX 61 [cI 0, cN, cN]), (3, oX 61 [cI x0.1, .sl 4, cN]), (4, oR (.int 3) x0.2.1)]⟩ [(pTo s22) x0.2.1] gamOK hT h (by kernel_rfl) ⟨(by (show Sh.sz _ _ ≤ 1048576; first | omega | (show (0 : Nat) ≤ 1048576; decide))), trivial⟩ ?_
  intro a w h
  refine then_normal ?_
  refine wp_seq ?_
  refine at_regq (T := S_laws_toCodedPacket_tab) [{}, {}, { ids := [5] }] { ts := [2, 3], os := [2, 3, 4, 5] } [(pTo s22) x0.2.2] gamOK hT h (by kernel_rfl) ⟨(by (show Sh.sz _ _ ≤ 1048576; first | omega | (show (0 : Nat) ≤ 1048576; decide))), trivial⟩ ?_
  intro a w h
  refine then_normal ?_
  refine wp_seq ?_
  refine at_regq (T := S_laws_toCodedPacket_tab) [] { ts := [2], os := [2, 4, 5] } [] gamOK hT h (by kernel_rfl) trivial ?_
  intro a w h
  refine then_normal ?_
  refine wp_ret ?_
  exact at_return (S := S_laws_toCodedPacket) (x := (x0, ())) (x0, ()) [] h (by kernel_rfl) trivial (congrArg (fun z => (z, ())) (show (x0) = (idD s44) x0 from by rfl))

def S_laws_toHashKey : Sum := { fid := 23, dom := [s40], cod := [s57], dp := true, fz := false, pre := fun x => (pTo s40) x.1, g := fun x => (((idD s40) x.1), ()) }
def S_laws_toHashKey_tab : List (Nat × Sum) := [(84, S_laws_toIntS)]
theorem S_laws_toHashKey_ok : FnOK Try.prog 23 S_laws_toHashKey := by
  refine at_enter 9 (fun x => ⟨[(0, aG [.ro (.int 3) x.1])], []⟩) Try.func23 rfl (by kernel_rfl) (fun x => rfl) ?_
  rintro w0 Z0 ⟨x0, u⟩ a w
  revert x0
  intro (x0 : (List Int)) hpre hlens h
  replace h : At w0 Z0 [] 9 ⟨[(0, aG [.ro (.int 3) x0])], []⟩ a w := h
  replace hpre : (pTo s40) x0 := hpre
  have hl1 : List.length x0 ≤ 9223372036854775807 := hlens.1.1
  have hT : TabOK Try.prog S_laws_toHashKey_tab := (.cons S_laws_toIntS_ok .nil)
  have hp : Sh.sz s40 x0 ≤ 1048576 := hpre
  have hsz : Sh.sz s40 x0 = (Sh.sz s22 x0) := rfl
  refine wp_seq ?_
  refine at_regq (T := S_laws_toHashKey_tab) [{ ids := [1] }, { ids := [2] }] { ts := [1, 2], os := [1, 2] } [] gamOK hT h (by kernel_rfl) trivial ?_
  intro a w h
  refine then_normal ?_
  refine wp_seq ?_
  refine at_regq (T := S_laws_toHashKey_tab) [{ ids := [3] }] { ts := [1, 2, 3], os := [1, 2, 3] } [] gamOK hT h (by kernel_rfl) trivial ?_
  intro a w h
  refine then_normal ?_
  refine wp_seq ?_
  refine at_regq (T := S_laws_toHashKey_tab) [{}, {}, { ids := [4] }] { ts := [2, 3], os := [2, 3, 4] } [(pTo s22) x0] gamOK hT h (by kernel_rfl) ⟨(by (show Sh.sz _ _ ≤ 1048576; first | omega | (show (0 : Nat) ≤ 1048576; decide))), trivial⟩ ?_
  intro a w h
  refine then_normal ?_
  refine wp_seq ?_
  refine at_reg (T := S_laws_toHashKey_tab) [] { ts := [2], os := [2, 4] } ⟨[(2, aP 2 0)], [(2, oX 57 [.sl 4]), (4, oR (.int 3) x0)]⟩ [] gamOK hT h (by kernel_rfl) trivial ?_
  intro a w h
  refine then_normal ?_
  refine wp_ret ?_
  exact at_return (S := S_laws_toHashKey) (x := (x0, ())) (x0, ()) [] h (by kernel_rfl) trivial (congrArg (fun z => (z, ())) (show (x0) = (idD s40) x0 from by rfl))

def S_laws_toProof : Sum := { fid := 192, dom := [s237], cod := [s159], dp := true, fz := false, pre := fun x => (pTo s237) x.1, g := fun x => (((idD s237) x.1), ()) }
def S_laws_toProof_tab : List (Nat × Sum) := []
theorem S_laws_toProof_ok : FnOK Try.prog 192 S_laws_toProof := by
  refine at_enter 14 (fun x => ⟨[(0, aG [cI x.1.1, cI x.1.2.1, cI x.1.2.2])], []⟩) Try.func192 rfl (by kernel_rfl) (fun x => rfl) ?_
  rintro w0 Z0 ⟨x0, u⟩ a w
  revert x0
  intro (x0 : T237) hpre hlens h
  replace h : At w0 Z0 [] 14 ⟨[(0, aG [cI x0.1, cI x0.2.1, cI x0.2.2])], []⟩ a w := h
  replace hpre : (pTo s237) x0 := hpre
  have hT : TabOK Try.prog S_laws_toProof_tab := .nil
  have hp : Sh.sz s237 x0 ≤ 1048576 := hpre
  have hsz : Sh.sz s237 x0 = (0 + (0 + 0)) := rfl
  refine wp_seq ?_
  refine at_regq (T := S_laws_toProof_tab) [{ ids := [1] }, { ids := [2] }] { ts := [1, 2], os := [1, 2] } [] gamOK hT h (by kernel_rfl) trivial ?_
  intro a w h
  refine then_normal ?_
  refine wp_seq ?_
  refine at_regq (T := S_laws_toProof_tab) [{ ids := [3] }] { ts := [1, 2, 3], os := [1, 2, 3] } [] gamOK hT h (by kernel_rfl) trivial ?_
  intro a w h
  refine then_normal ?_
  refine wp_seq ?_
  refine at_regq (T := S_laws_toProof_tab) [] { ts := [1, 2, 3], os := [1, 2, 3] } [] gamOK hT h (by kernel_rfl) trivial ?_
  intro a w h
  refine then_normal ?_
  refine wp_seq ?_
  refine at_reg (T := S_laws_toProof_tab) [] { ts := [1, 2, 3], os := [1, 2, 3] } ⟨[(1, aP 1 0), (2, aP 2 0), (3, aP 3 0)], [(1, oX 237 [cI x0.1, cI x0.2.1, cI x0.2.2]), (2, oX 159 [cI 0, cI 0, cI 0]), (3, oX 159 [cI x0.1, cI x0.2.1, cI 0])]⟩ [] gamOK hT h (by kernel_rfl) trivial ?_
  intro a w h
  refine then_normal ?_
  refine wp_seq ?_
  refine at_regq (T := S_laws_toProof_tab) [] { ts := [2, 3], os := [2, 3] } [] gamOK hT h (by kernel_rfl) trivial ?_
  intro a w h
  refine then_normal ?_
  refine wp_seq ?_
  refine at_regq (T := S_laws_toProof_tab) [] { ts := [2], os := [2] } [] gamOK hT h (by kernel_rfl) trivial ?_
  intro a w h
  refine then_normal ?_
  refine wp_ret ?_
  exact at_return (S := S_laws_toProof) (x := (x0, ())) (x0, ()) [] h (by kernel_rfl) trivial (congrArg (fun z => (z, ())) (show (x0) = (idD s237) x0 from by rfl))

def S_laws_toProofS : Sum := { fid := 95, dom := [s36], cod := [s51], dp := true, fz := false, pre := fun x => (pTo s36) x.1, g := fun x => (((idD s36) x.1), ()) }
def S_laws_toProofS_tab : List (Nat × Sum) := [(192, S_laws_toProof)]
theorem S_laws_toProofS_ok : FnOK Try.prog 95 S_laws_toProofS := by
  refine at_enter 23 (fun x => ⟨[(0, aF s237 x.1)], []⟩) Try.func95 rfl (by kernel_rfl) (fun x => rfl) ?_
  rintro w0 Z0 ⟨x0, u⟩ a w
  revert x0
  intro (x0 : (List T237)) hpre hlens h
  replace h : At w0 Z0 [] 23 ⟨[(0, aF s237 x0)], []⟩ a w := h
  replace hpre : (pTo s36) x0 := hpre
  have hl1 : List.length x0 ≤ 9223372036854775807 := hlens.1.1
  have hT : TabOK Try.prog S_laws_toProofS_tab := (.cons S_laws_toProof_ok .nil)
  have hp : Sh.sz s36 x0 ≤ 1048576 := hpre
  have hsz : Sh.sz s36 x0 = List.length x0 + ctL (Sh.sz s237) x0 := rfl
  refine wp_seq ?_
  refine at_regq (T := S_laws_toProofS_tab) [] { ts := [0, 2], os := [] } [] gamOK hT h (by kernel_rfl) trivial ?_
  intro a w h
  refine then_normal ?_
  refine wp_seq ?_
  refine at_regq (T := S_laws_toProofS_tab) [{}, {}, { ids := [1] }] { ts := [0, 2, 3], os := [1] } [(0 : Int) ≤ ((List.length x0 : Nat) : Int) ∧ ((List.length x0 : Nat) : Int) = ((List.length x0 : Nat) : Int) ∧ ((List.length x0 : Nat) : Int) * (24 : Nat) ≤ (140737488355328 : Int)] gamOK hT h (by kernel_rfl) ⟨(by refine ⟨?_, ?_, ?_⟩ <;> ((have hA0 := mul_f ((List.length x0 : Nat) : Int) (24 : Nat); first | omega | (simp only [List.length_append, List.length_cons, List.length_nil, List.length_set, List.length_take, List.length_drop, List.length_replicate, List.length_map, Nat.min_def, copyTo_len hok0]; omega) | (simp; done) | (simp; omega) | done))), trivial⟩ ?_
  intro a w h
  refine then_normal ?_
  refine wp_seq ?_
  refine wp_seq ?_
  refine at_regq (T := S_laws_toProofS_tab) [] { ts := [0, 2, 3, 4], os := [1] } [] gamOK hT h (by kernel_rfl) trivial ?_
  intro a w h
  refine then_normal ?_
  refine wp_block ?_
  replace h := at_out (σ' := ⟨[(0, aF s237 x0), (2, .p (.c (cN))), (3, aS 1), (4, aI 0)], [(1, oR s159 (List.replicate (List.length x0) ((0, (0, 0)) : T159)))]⟩) { ts := [0, 2, 3, 4], os := [1] } h (by kernel_rfl)
  refine at_loop (fun i : Nat => (⟨[(0, aF s237 x0), (2, .p (.c (cN))), (3, aS 1), (4, aI ((i : Nat) : Int))], [(1, oR s159 (copyTo (0, (0, 0)) x0 i))]⟩ : St)) (fun i => i ≤ List.length x0) (fun i => List.length x0 - i) (0) h (st_congr2 (fun (d0 : List T159) (d1 : Int) => (⟨[(0, aF s237 x0), (2, .p (.c (cN))), (3, aS 1), (4, aI d1)], [(1, oR s159 d0)]⟩ : St)) (show ((List.replicate (List.length x0) ((0, (0, 0)) : T159)) : List T159) = (copyTo (0, (0, 0)) x0 (0)) from by first | with_reducible rfl | (exact copyTo_zero) | rfl) (show (0 : Int) = (((0) : Nat) : Int) from by first | with_reducible rfl | (exact copyTo_zero) | rfl)) (by first | omega | simp | (refine ⟨?_, ?_⟩ <;> first | omega | simp)) ?_
  intro i a w hok0 h
  refine wp_seq ?_
  refine wp_seq ?_
  refine at_reg (T := S_laws_toProofS_tab) [] { ts := [0, 2, 3, 4, 11], os := [1] } ⟨[(0, aF s237 x0), (2, .p (.c (cN))), (3, aS 1), (4, aI ((i : Nat) : Int)), (11, aB (decide (((i : Nat) : Int) < ((List.length x0 : Nat) : Int))))], [(1, oR s159 (copyTo (0, (0, 0)) x0 i))]⟩ [] gamOK hT h (by kernel_rfl) trivial ?_
  intro a w h
  refine then_normal ?_
  refine at_test (decide (((i : Nat) : Int) < ((List.length x0 : Nat) : Int))) h (by kernel_rfl) (fun h1 => ?_) (fun h1 => ?_)
  · replace h1 : ((i : Nat) : Int) < ((List.length x0 : Nat) : Int) := of_decide_eq_true h1
    have hat := ctL_at_le (c := Sh.sz s237) (xs := x0) (z := (0, (0, 0))) (i := i) (by omega)
    refine wp_skip ?_
    refine then_normal ?_
    refine wp_seq ?_
    refine wp_block ?_
    refine at_regq (T := S_laws_toProofS_tab) [] { ts := [0, 2, 3, 4], os := [1] } [(0 : Int) ≤ ((i : Nat) : Int) ∧ ((i : Nat) : Int) < ((List.length x0 : Nat) : Int), (pTo s237) (x0.getD i (0, (0, 0))), (0 : Int) ≤ ((i : Nat) : Int) ∧ ((i : Nat) : Int) < ((List.length (copyTo (0, (0, 0)) x0 i) : Nat) : Int), i < List.length (copyTo (0, (0, 0)) x0 i)] gamOK hT h (by kernel_rfl) ⟨(by refine ⟨?_, ?_⟩ <;> (first | omega | (simp only [List.length_append, List.length_cons, List.length_nil, List.length_set, List.length_take, List.length_drop, List.length_replicate, List.length_map, Nat.min_def, copyTo_len hok0]; omega) | (simp; done) | (simp; omega) | done)), (by (show Sh.sz _ _ ≤ 1048576; omega)), (by refine ⟨?_, ?_⟩ <;> (first | omega | (simp only [List.length_append, List.length_cons, List.length_nil, List.length_set, List.length_take, List.length_drop, List.length_replicate, List.length_map, Nat.min_def, copyTo_len hok0]; omega) | (simp; done) | (simp; omega) | done)), (by first | omega | (simp only [List.length_append, List.length_cons, List.length_nil, List.length_set, List.length_take, List.length_drop, List.length_replicate, List.length_map, Nat.min_def, copyTo_len hok0]; omega) | (simp; done) | (simp; omega) | done), trivial⟩ ?_
    intro a w h
    refine in_normal ?_
    refine then_normal ?_
    refine at_regq (T := S_laws_toProofS_tab) [{}, { nw := true }] { ts := [0, 2, 3, 4], os := [1] } [I64 (((i : Nat) : Int) + 1)] gamOK hT h (by kernel_rfl) ⟨⟨by first | omega | (simp only [List.length_append, List.length_cons, List.length_nil, List.length_set, List.length_take, List.length_drop, List.length_replicate, List.length_map, Nat.min_def, copyTo_len hok0]; omega) | (simp; done) | (simp; omega) | done, by first | omega | (simp only [List.length_append, List.length_cons, List.length_nil, List.length_set, List.length_take, List.length_drop, List.length_replicate, List.length_map, Nat.min_def, copyTo_len hok0]; omega) | (simp; done) | (simp; omega) | done⟩, trivial⟩ ?_
    intro a w h
    replace h := at_out (σ' := ⟨[(0, aF s237 x0), (2, .p (.c (cN))), (3, aS 1), (4, aI (((i : Nat) : Int) + 1))], [(1, oR s159 (List.set (copyTo (0, (0, 0)) x0 i) i (x0.getD i (0, (0, 0)))))]⟩) { ts := [0, 2, 3, 4], os := [1] } h (by kernel_rfl)
    exact ⟨i + 1, at_eq h (st_congr2 (fun (d0 : List T159) (d1 : Int) => (⟨[(0, aF s237 x0), (2, .p (.c (cN))), (3, aS 1), (4, aI d1)], [(1, oR s159 d0)]⟩ : St)) (show ((List.set (copyTo (0, (0, 0)) x0 i) i (x0.getD i (0, (0, 0)))) : List T159) = (copyTo (0, (0, 0)) x0 (i + 1)) from by first | with_reducible rfl | (exact copyTo_set (by omega)) | rfl) (show (((i : Nat) : Int) + 1 : Int) = (((i + 1) : Nat) : Int) from by first | with_reducible rfl | (omega) | rfl)), (by first | omega | (refine ⟨?_, ?_⟩ <;> omega)), (by omega)⟩
  · replace h1 : ¬ (((i : Nat) : Int) < ((List.length x0 : Nat) : Int)) := of_decide_eq_false h1
    refine wp_exit ?_
    refine then_exit ?_
    refine then_exit ?_
    refine in_hit ?_
    refine then_normal ?_
    refine wp_seq ?_
    refine at_regq (T := S_laws_toProofS_tab) [] { ts := [2], os := [1] } [] gamOK hT h (by kernel_rfl) trivial ?_
    intro a w h
    refine then_normal ?_
    refine wp_ret ?_
    exact at_return (S := S_laws_toProofS) (x := (x0, ())) ((copyTo (0, (0, 0)) x0 i), ()) [] h (by kernel_rfl) trivial (congrArg (fun z => (z, ())) (show ((copyTo (0, (0, 0)) x0 i)) = (idD s36) x0 from by (rw [copyTo_all (by omega)]; rfl)))

def S_laws_toLedger : Sum := { fid := 22, dom := [s38], cod := [s53], dp := true, fz := false, pre := fun x => (pTo s38) x.1, g := fun x => (((idD s38) x.1), ()) }
def S_laws_toLedger_tab : List (Nat × Sum) := [(95, S_laws_toProofS)]
theorem S_laws_toLedger_ok : FnOK Try.prog 22 S_laws_toLedger := by
  refine at_enter 9 (fun x => ⟨[(0, aG [.ro s237 x.1])], []⟩) Try.func22 rfl (by kernel_rfl) (fun x => rfl) ?_
  rintro w0 Z0 ⟨x0, u⟩ a w
  revert x0
  intro (x0 : (List T237)) hpre hlens h
  replace h : At w0 Z0 [] 9 ⟨[(0, aG [.ro s237 x0])], []⟩ a w := h
  replace hpre : (pTo s38) x0 := hpre
  have hl1 : List.length x0 ≤ 9223372036854775807 := hlens.1.1
  have hT : TabOK Try.prog S_laws_toLedger_tab := (.cons S_laws_toProofS_ok .nil)
  have hp : Sh.sz s38 x0 ≤ 1048576 := hpre
  have hsz : Sh.sz s38 x0 = (Sh.sz s36 x0) := rfl
  refine wp_seq ?_
  refine at_regq (T := S_laws_toLedger_tab) [{ ids := [1] }, { ids := [2] }] { ts := [1, 2], os := [1, 2] } [] gamOK hT h (by kernel_rfl) trivial ?_
  intro a w h
  refine then_normal ?_
  refine wp_seq ?_
  refine at_regq (T := S_laws_toLedger_tab) [{ ids := [3] }] { ts := [1, 2, 3], os := [1, 2, 3] } [] gamOK hT h (by kernel_rfl) trivial ?_
  intro a w h
  refine then_normal ?_
  refine wp_seq ?_
  refine at_regq (T := S_laws_toLedger_tab) [{}, {}, { ids := [4] }] { ts := [2, 3], os := [2, 3, 4] } [(pTo s36) x0] gamOK hT h (by kernel_rfl) ⟨(by (show Sh.sz _ _ ≤ 1048576; first | omega | (show (0 : Nat) ≤ 1048576; decide))), trivial⟩ ?_
  intro a w h
  refine then_normal ?_
  refine wp_seq ?_
  refine at_reg (T := S_laws_toLedger_tab) [] { ts := [2], os := [2, 4] } ⟨[(2, aP 2 0)], [(2, oX 53 [.sl 4]), (4, oR s159 x0)]⟩ [] gamOK hT h (by kernel_rfl) trivial ?_
  intro a w h
  refine then_normal ?_
  refine wp_ret ?_
  exact at_return (S := S_laws_toLedger) (x := (x0, ())) (x0, ()) [] h (by kernel_rfl) trivial (congrArg (fun z => (z, ())) (show (x0) = (idD s38) x0 from by rfl))

def S_laws_toLinkPacket : Sum := { fid := 25, dom := [s46], cod := [s63], dp := true, fz := false, pre := fun x => (pTo s46) x.1, g := fun x => (((idD s46) x.1), ()) }
def S_laws_toLinkPacket_tab : List (Nat × Sum) := [(56, S_laws_toCodedPacket)]
theorem S_laws_toLinkPacket_ok : FnOK Try.prog 25 S_laws_toLinkPacket := by
  refine at_enter 21 (fun x => ⟨[(0, aG [cI x.1.1, cI x.1.2.1, cI x.1.2.2.1, cI x.1.2.2.2.1.1, .ro (.int 3) x.1.2.2.2.1.2.1, .ro (.int 3) x.1.2.2.2.1.2.2, cI x.1.2.2.2.2])], []⟩) Try.func25 rfl (by kernel_rfl) (fun x => rfl) ?_
  rintro w0 Z0 ⟨x0, u⟩ a w
  revert x0
  intro (x0 : T46) hpre hlens h
  replace h : At w0 Z0 [] 21 ⟨[(0, aG [cI x0.1, cI x0.2.1, cI x0.2.2.1, cI x0.2.2.2.1.1, .ro (.int 3) x0.2.2.2.1.2.1, .ro (.int 3) x0.2.2.2.1.2.2, cI x0.2.2.2.2])], []⟩ a w := h
  replace hpre : (pTo s46) x0 := hpre
  have hl1 : List.length x0.2.2.2.1.2.1 ≤ 9223372036854775807 := hlens.1.2.2.2.1.2.1.1
  have hl2 : List.length x0.2.2.2.1.2.2 ≤ 9223372036854775807 := hlens.1.2.2.2.1.2.2.1
  have hT : TabOK Try.prog S_laws_toLinkPacket_tab := (.cons S_laws_toCodedPacket_ok .nil)
  have hp : Sh.sz s46 x0 ≤ 1048576 := hpre
  have hsz : Sh.sz s46 x0 = (0 + (0 + (0 + ((Sh.sz s44 x0.2.2.2.1) + 0)))) := rfl
  refine wp_seq ?_
  refine at_regq (T := S_laws_toLinkPacket_tab) [{ ids := [1] }, { ids := [2] }] { ts := [1, 2], os := [1, 2] } [] gamOK hT h (by kernel_rfl) trivial ?_
  intro a w h
  refine then_normal ?_
  refine wp_seq ?_
  refine at_regq (T := S_laws_toLinkPacket_tab) [{ ids := [3] }] { ts := [1, 2, 3], os := [1, 2, 3] } [] gamOK hT h (by kernel_rfl) trivial ?_
  intro a w h
  refine then_normal ?_
  refine wp_seq ?_
  refine at_regq (T := S_laws_toLinkPacket_tab) [] { ts := [1, 2, 3], os := [1, 2, 3] } [] gamOK hT h (by kernel_rfl) trivial ?_
  intro a w h
  refine then_normal ?_
  refine wp_seq ?_
  refine at_reg (T := S_laws_toLinkPacket_tab) [] { ts := [1, 2, 3], os := [1, 2, 3] } ⟨[(1, aP 1 0), (2, aP 2 0), (3, aP 3 0)], [(1, oX 46 [cI x0.1, cI x0.2.1, cI x0.2.2.1, cI x0.2.2.2.1.1, .ro (.int 3) x0.2.2.2.1.2.1, .ro (.int 3) x0.2.2.2.1.2.2, cI x0.2.2.2.2]), (2, oX 63 [cI 0, cI 0, cI 0, cI 0, cN, cN, cI 0]), (3, oX 63 [cI x0.1, cI x0.2.1, cI 0, cI 0, cN, cN, cI 0])]⟩ [] gamOK hT h (by kernel_rfl) trivial ?_
  intro a w h
  refine then_normal ?_
  refine wp_seq ?_
  refine at_regq (T := S_laws_toLinkPacket_tab) [] { ts := [1, 2, 3], os := [1, 2, 3] } [] gamOK hT h (by kernel_rfl) trivial ?_
  intro a w h
  refine then_normal ?_
  refine wp_seq ?_
  refine at_regq (T := S_laws_toLinkPacket_tab) [{}, {}, { ids := [4, 5] }] { ts := [1, 2, 3], os := [1, 2, 3, 4, 5] } [(pTo s44) x0.2.2.2.1] gamOK hT h (by kernel_rfl) ⟨(by (show Sh.sz _ _ ≤ 1048576; first | omega | (show (0 : Nat) ≤ 1048576; decide))), trivial⟩ ?_
  intro a w h
  refine then_normal ?_
  refine wp_seq ?_
  refine at_regq (T := S_laws_toLinkPacket_tab) [] { ts := [2, 3], os := [2, 3, 4, 5] } [] gamOK hT h (by kernel_rfl) trivial ?_
  intro a w h
  refine then_normal ?_
  refine wp_seq ?_
  refine at_reg (T := S_laws_toLinkPacket_tab) [] { ts := [2], os := [2, 4, 5] } ⟨[(2, aP 2 0)], [(2, oX 63 [cI x0.1, cI x0.2.1, cI x0.2.2.1, cI x0.2.2.2.1.1, .sl 4, .sl 5, cI x0.2.2.2.2]), (4, oR (.int 3) x0.2.2.2.1.2.1), (5, oR (.int 3) x0.2.2.2.1.2.2)]⟩ [] gamOK hT h (by kernel_rfl) trivial ?_
  intro a w h
  refine then_normal ?_
  refine wp_ret ?_
  exact at_return (S := S_laws_toLinkPacket) (x := (x0, ())) (x0, ()) [] h (by kernel_rfl) trivial (congrArg (fun z => (z, ())) (show (x0) = (idD s46) x0 from by rfl))

def S_laws_toManifest : Sum := { fid := 24, dom := [s42], cod := [s59], dp := true, fz := false, pre := fun x => (pTo s42) x.1, g := fun x => (((idD s42) x.1), ()) }
def S_laws_toManifest_tab : List (Nat × Sum) := [(84, S_laws_toIntS)]
theorem S_laws_toManifest_ok : FnOK Try.prog 24 S_laws_toManifest := by
  refine at_enter 24 (fun x => ⟨[(0, aG [cI x.1.1, cI x.1.2.1, cI x.1.2.2.1, cI x.1.2.2.2.1, .ro (.int 3) x.1.2.2.2.2.1, cI x.1.2.2.2.2.2])], []⟩) Try.func24 rfl (by kernel_rfl) (fun x => rfl) ?_
  rintro w0 Z0 ⟨x0, u⟩ a w
  revert x0
  intro (x0 : T42) hpre hlens h
  replace h : At w0 Z0 [] 24 ⟨[(0, aG [cI x0.1, cI x0.2.1, cI x0.2.2.1, cI x0.2.2.2.1, .ro (.int 3) x0.2.2.2.2.1, cI x0.2.2.2.2.2])], []⟩ a w := h
  replace hpre : (pTo s42) x0 := hpre
  have hl1 : List.length x0.2.2.2.2.1 ≤ 9223372036854775807 := hlens.1.2.2.2.2.1.1
  have hT : TabOK Try.prog S_laws_toManifest_tab := (.cons S_laws_toIntS_ok .nil)
  have hp : Sh.sz s42 x0 ≤ 1048576 := hpre
  have hsz : Sh.sz s42 x0 = (0 + (0 + (0 + (0 + ((Sh.sz s22 x0.2.2.2.2.1) + 0))))) := rfl
  refine wp_seq ?_
  refine at_regq (T := S_laws_toManifest_tab) [{ ids := [1] }, { ids := [2] }] { ts := [1, 2], os := [1, 2] } [] gamOK hT h (by kernel_rfl) trivial ?_
  intro a w h
  refine then_normal ?_
  refine wp_seq ?_
  refine at_regq (T := S_laws_toManifest_tab) [{ ids := [3] }] { ts := [1, 2, 3], os := [1, 2, 3] } [] gamOK hT h (by kernel_rfl) trivial ?_
  intro a w h
  refine then_normal ?_
  refine wp_seq ?_
  refine at_regq (T := S_laws_toManifest_tab) [] { ts := [1, 2, 3], os := [1, 2, 3] } [] gamOK hT h (by kernel_rfl) trivial ?_
  intro a w h
  refine then_normal ?_
  refine wp_seq ?_
  refine at_reg (T := S_laws_toManifest_tab) [] { ts := [1, 2, 3], os := [1, 2, 3] } ⟨[(1, aP 1 0), (2, aP 2 0), (3, aP 3 0)], [(1, oX 42 [cI x0.1, cI x0.2.1, cI x0.2.2.1, cI x0.2.2.2.1, .ro (.int 3) x0.2.2.2.2.1, cI x0.2.2.2.2.2]), (2, oX 59 [cI 0, cI 0, cI 0, cI 0, cN, cI 0]), (3, oX 59 [cI x0.1, cI x0.2.1, cI 0, cI 0, cN, cI 0])]⟩ [] gamOK hT h (by kernel_rfl) trivial ?_
  intro a w h
  refine then_normal ?_
  refine wp_seq ?_
  refine at_regq (T := S_laws_toManifest_tab) [] { ts := [1, 2, 3], os := [1, 2, 3] } [] gamOK hT h (by kernel_rfl) trivial ?_
  intro a w h
  refine then_normal ?_
  refine wp_seq ?_
  refine at_regq (T := S_laws_toManifest_tab) [] { ts := [1, 2, 3], os := [1, 2, 3] } [] gamOK hT h (by kernel_rfl) trivial ?_
  intro a w h
  refine then_normal ?_
  refine wp_seq ?_
  refine at_regq (T := S_laws_toManifest_tab) [{}, {}, { ids := [4] }] { ts := [1, 2, 3], os := [1, 2, 3, 4] } [(pTo s22) x0.2.2.2.2.1] gamOK hT h (by kernel_rfl) ⟨(by (show Sh.sz _ _ ≤ 1048576; first | omega | (show (0 : Nat) ≤ 1048576; decide))), trivial⟩ ?_
  intro a w h
  refine then_normal ?_
  refine wp_seq ?_
  refine at_reg (T := S_laws_toManifest_tab) [] { ts := [2, 3], os := [2, 3, 4] } ⟨[(2, aP 2 0), (3, aP 3 0)], [(2, oX 59 [cI 0, cI 0, cI 0, cI 0, cN, cI 0]), (3, oX 59 [cI x0.1, cI x0.2.1, cI x0.2.2.1, cI x0.2.2.2.1, .sl 4, cI x0.2.2.2.2.2]), (4, oR (.int 3) x0.2.2.2.2.1)]⟩ [] gamOK hT h (by kernel_rfl) trivial ?_
  intro a w h
  refine then_normal ?_
  refine wp_seq ?_
  refine at_regq (T := S_laws_toManifest_tab) [] { ts := [2], os := [2, 4] } [] gamOK hT h (by kernel_rfl) trivial ?_
  intro a w h
  refine then_normal ?_
  refine wp_ret ?_
  exact at_return (S := S_laws_toManifest) (x := (x0, ())) (x0, ()) [] h (by kernel_rfl) trivial (congrArg (fun z => (z, ())) (show (x0) = (idD s42) x0 from by rfl))

def S__impl_Ledger_clone : Sum := { fid := 96, dom := [s53], cod := [s53], dp := true, fz := false, pre := fun x => (lenOK (α := T159)) x.1, g := fun x => (((idL (α := T159)) x.1), ()) }
def S__impl_Ledger_clone_tab : List (Nat × Sum) := [(193, S_slices_Clone_S_impl_Proof_impl_Proof_)]
theorem S__impl_Ledger_clone_ok : FnOK Try.prog 96 S__impl_Ledger_clone := by
  refine at_enter 7 (fun x => ⟨[(0, aG [.ro s159 x.1])], []⟩) Try.func96 rfl (by kernel_rfl) (fun x => rfl) ?_
  rintro w0 Z0 ⟨x0, u⟩ a w
  revert x0
  intro (x0 : (List T159)) hpre hlens h
  replace h : At w0 Z0 [] 7 ⟨[(0, aG [.ro s159 x0])], []⟩ a w := h
  replace hpre : (lenOK (α := T159)) x0 := hpre
  have hl1 : List.length x0 ≤ 9223372036854775807 := hlens.1.1
  have hT : TabOK Try.prog S__impl_Ledger_clone_tab := (.cons S_slices_Clone_S_impl_Proof_impl_Proof__ok .nil)
  have hp : List.length x0 ≤ 1073741824 := hpre
  refine wp_seq ?_
  refine at_regq (T := S__impl_Ledger_clone_tab) [{ ids := [1] }, { ids := [2] }] { ts := [1, 2], os := [1, 2] } [] gamOK hT h (by kernel_rfl) trivial ?_
  intro a w h
  refine then_normal ?_
  refine wp_seq ?_
  refine at_regq (T := S__impl_Ledger_clone_tab) [{}, {}, { ids := [3] }] { ts := [2], os := [2, 3] } [(lenOK (α := (Int × (Int × Int)))) x0] gamOK hT h (by kernel_rfl) ⟨(by first | assumption | trivial | (first | omega | (simp only [List.length_append, List.length_cons, List.length_nil, List.length_set, List.length_take, List.length_drop, List.length_replicate, List.length_map, Nat.min_def]; omega) | (simp; done) | (simp; omega) | done)), trivial⟩ ?_
  intro a w h
  refine then_normal ?_
  refine wp_ret ?_
  exact at_return (S := S__impl_Ledger_clone) (x := (x0, ())) (x0, ()) [] h (by kernel_rfl) trivial (congrArg (fun z => (z, ())) (show (x0) = (idL (α := T159)) x0 from by rfl))

def S_spec_l29Copy : Sum := { fid := 92, dom := [s53], cod := [s53], dp := true, fz := false, pre := fun x => (lenOK (α := T159)) x.1, g := fun x => (((idL (α := T159)) x.1), ()) }
def S_spec_l29Copy_tab : List (Nat × Sum) := []
theorem S_spec_l29Copy_ok : FnOK Try.prog 92 S_spec_l29Copy := by
  refine at_enter 8 (fun x => ⟨[(0, aG [.ro s159 x.1])], []⟩) Try.func92 rfl (by kernel_rfl) (fun x => rfl) ?_
  rintro w0 Z0 ⟨x0, u⟩ a w
  revert x0
  intro (x0 : (List T159)) hpre hlens h
  replace h : At w0 Z0 [] 8 ⟨[(0, aG [.ro s159 x0])], []⟩ a w := h
  replace hpre : (lenOK (α := T159)) x0 := hpre
  have hl1 : List.length x0 ≤ 9223372036854775807 := hlens.1.1
  have hT : TabOK Try.prog S_spec_l29Copy_tab := .nil
  have hp : List.length x0 ≤ 1073741824 := hpre
  refine wp_seq ?_
  refine at_regq (T := S_spec_l29Copy_tab) [{ ids := [1] }, { ids := [2] }] { ts := [1, 2], os := [1, 2] } [] gamOK hT h (by kernel_rfl) trivial ?_
  intro a w h
  refine then_normal ?_
  refine wp_seq ?_
  refine at_regq (T := S_spec_l29Copy_tab) [{ ids := [3] }, {}, {}, { ids := [4] }] { ts := [2], os := [2, 4] } [(List.length ([] : List T159) + List.length x0) * 24 ≤ 140737488355328] gamOK hT h (by kernel_rfl) ⟨(by first | omega | (simp only [List.length_append, List.length_cons, List.length_nil, List.length_set, List.length_take, List.length_drop, List.length_replicate, List.length_map, Nat.min_def]; omega) | (simp; done) | (simp; omega) | done), trivial⟩ ?_
  intro a w h
  refine then_normal ?_
  refine wp_ret ?_
  exact at_return (S := S_spec_l29Copy) (x := (x0, ())) ((([] : List T159) ++ x0), ()) [] h (by kernel_rfl) trivial (congrArg (fun z => (z, ())) (show ((([] : List T159) ++ x0)) = (idL (α := T159)) x0 from by rfl))

def D_spec_l29Has := (fun (xs : List T159) (v : T159) => xs.any fun e => Sh.eqB s159 v e)
def S_spec_l29Has : Sum := { fid := 191, dom := [s51, s159], cod := [(.bool 4)], dp := true, fz := false, pre := fun x => True, g := fun x => ((D_spec_l29Has x.1 x.2.1), ()) }
def S_spec_l29Has_tab : List (Nat × Sum) := []
theorem S_spec_l29Has_ok : FnOK Try.prog 191 S_spec_l29Has := by
  refine at_enter 18 (fun x => ⟨[(0, aF s159 x.1), (1, aG [cI x.2.1.1, cI x.2.1.2.1, cI x.2.1.2.2])], []⟩) Try.func191 rfl (by kernel_rfl) (fun x => rfl) ?_
  rintro w0 Z0 ⟨x0, x1, u⟩ a w
  revert x0 x1
  intro (x0 : (List T159)) (x1 : T159) hpre hlens h
  replace h : At w0 Z0 [] 18 ⟨[(0, aF s159 x0), (1, aG [cI x1.1, cI x1.2.1, cI x1.2.2])], []⟩ a w := h
  have hl1 : List.length x0 ≤ 9223372036854775807 := hlens.1.1
  have hT : TabOK Try.prog S_spec_l29Has_tab := .nil
  refine wp_seq ?_
  refine at_regq (T := S_spec_l29Has_tab) [{ ids := [1] }] { ts := [0, 3, 4], os := [1] } [] gamOK hT h (by kernel_rfl) trivial ?_
  intro a w h
  refine then_normal ?_
  refine wp_seq ?_
  refine wp_seq ?_
  refine at_regq (T := S_spec_l29Has_tab) [] { ts := [0, 3, 4, 5], os := [1] } [] gamOK hT h (by kernel_rfl) trivial ?_
  intro a w h
  refine then_normal ?_
  refine wp_block ?_
  replace h := at_out (σ' := ⟨[(0, aF s159 x0), (3, aP 1 0), (4, aB false), (5, aI 0)], [(1, oX 159 [cI x1.1, cI x1.2.1, cI x1.2.2])]⟩) { ts := [0, 3, 4, 5], os := [1] } h (by kernel_rfl)
  refine at_loop (fun i : Nat => (⟨[(0, aF s159 x0), (3, aP 1 0), (4, aB false), (5, aI ((i : Nat) : Int))], [(1, oX 159 [cI x1.1, cI x1.2.1, cI x1.2.2])]⟩ : St)) (fun i => (i ≤ List.length x0 ∧ noneTo (fun e => Sh.eqB s159 x1 e) x0 (0, (0, 0)) i)) (fun i => List.length x0 - i) (0) h (st_congr1 (fun (d0 : Int) => (⟨[(0, aF s159 x0), (3, aP 1 0), (4, aB false), (5, aI d0)], [(1, oX 159 [cI x1.1, cI x1.2.1, cI x1.2.2])]⟩ : St)) (show (0 : Int) = (((0) : Nat) : Int) from by first | with_reducible rfl | (rfl) | rfl)) (by exact ⟨Nat.zero_le _, noneTo_zero⟩) ?_
  intro i a w hok0 h
  refine wp_seq ?_
  refine wp_seq ?_
  refine at_regq (T := S_spec_l29Has_tab) [] { ts := [0, 3, 4, 5, 9], os := [1] } [] gamOK hT h (by kernel_rfl) trivial ?_
  intro a w h
  refine then_normal ?_
  refine at_test (decide (((i : Nat) : Int) < ((List.length x0 : Nat) : Int))) h (by kernel_rfl) (fun h1 => ?_) (fun h1 => ?_)
  · replace h1 : ((i : Nat) : Int) < ((List.length x0 : Nat) : Int) := of_decide_eq_true h1
    refine wp_skip ?_
    refine then_normal ?_
    refine wp_seq ?_
    refine wp_block ?_
    refine wp_seq ?_
    refine at_any (T := S_spec_l29Has_tab) [{}, {}, {}, {}, {}, {}] { ts := [0, 3, 4, 5, 17], os := [1] } ⟨[(0, aF s159 x0), (3, aP 1 0), (4, aB false), (5, aI ((i : Nat) : Int)), (17, aB (allEq [(x0.getD i (0, (0, 0))).1, (x0.getD i (0, (0, 0))).2.1, (x0.getD i (0, (0, 0))).2.2] [x1.1, x1.2.1, x1.2.2]))], [(1, oX 159 [cI x1.1, cI x1.2.1, cI x1.2.2])]⟩ [(0 : Int) ≤ ((i : Nat) : Int) ∧ ((i : Nat) : Int) < ((List.length x0 : Nat) : Int)] gamOK hT mixed h (by kernel_rfl) ⟨(by refine ⟨?_, ?_⟩ <;> (first | omega | (simp only [List.length_append, List.length_cons, List.length_nil, List.length_set, List.length_take, List.length_drop, List.length_replicate, List.length_map, Nat.min_def]; omega) | (simp; done) | (simp; omega) | done)), trivial⟩ ?_
    intro a w h
    refine then_normal ?_
    refine at_test (allEq [(x0.getD i (0, (0, 0))).1, (x0.getD i (0, (0, 0))).2.1, (x0.getD i (0, (0, 0))).2.2] [x1.1, x1.2.1, x1.2.2]) h (by kernel_rfl) (fun h2 => ?_) (fun h2 => ?_)
    · refine wp_seq ?_
      refine at_regq (T := S_spec_l29Has_tab) [] { ts := [0, 3, 4, 5], os := [1] } [] gamOK hT h (by kernel_rfl) trivial ?_
      intro a w h
      refine then_normal ?_
      refine wp_ret ?_
      refine in_ret ?_
      refine then_ret ?_
      refine then_ret ?_
      refine in_ret ?_
      refine then_ret ?_
      exact at_return (S := S_spec_l29Has) (x := (x0, x1, ())) (true, ()) [] h (by kernel_rfl) trivial (congrArg (fun z => (z, ())) (show (true) = D_spec_l29Has x0 x1 from by unfold D_spec_l29Has; (rw [← idxF_any, idxF_at (z := (0, (0, 0))) (by omega) hok0.2 (by rw [allEq_comm] at h2; simpa [allEq, Sh.eqB] using h2)]; simp)))
    · refine wp_skip ?_
      refine in_normal ?_
      refine then_normal ?_
      refine at_regq (T := S_spec_l29Has_tab) [{}, { nw := true }] { ts := [0, 3, 4, 5], os := [1] } [I64 (((i : Nat) : Int) + 1)] gamOK hT h (by kernel_rfl) ⟨⟨by first | omega | (simp only [List.length_append, List.length_cons, List.length_nil, List.length_set, List.length_take, List.length_drop, List.length_replicate, List.length_map, Nat.min_def]; omega) | (simp; done) | (simp; omega) | done, by first | omega | (simp only [List.length_append, List.length_cons, List.length_nil, List.length_set, List.length_take, List.length_drop, List.length_replicate, List.length_map, Nat.min_def]; omega) | (simp; done) | (simp; omega) | done⟩, trivial⟩ ?_
      intro a w h
      replace h := at_out (σ' := ⟨[(0, aF s159 x0), (3, aP 1 0), (4, aB false), (5, aI (((i : Nat) : Int) + 1))], [(1, oX 159 [cI x1.1, cI x1.2.1, cI x1.2.2])]⟩) { ts := [0, 3, 4, 5], os := [1] } h (by kernel_rfl)
      exact ⟨i + 1, at_eq h (st_congr1 (fun (d0 : Int) => (⟨[(0, aF s159 x0), (3, aP 1 0), (4, aB false), (5, aI d0)], [(1, oX 159 [cI x1.1, cI x1.2.1, cI x1.2.2])]⟩ : St)) (show (((i : Nat) : Int) + 1 : Int) = (((i + 1) : Nat) : Int) from by first | with_reducible rfl | (omega) | rfl)), (by exact ⟨by omega, noneTo_succ hok0.2 (by rw [allEq_comm] at h2; simpa [allEq, Sh.eqB] using h2)⟩), (by omega)⟩
  · replace h1 : ¬ (((i : Nat) : Int) < ((List.length x0 : Nat) : Int)) := of_decide_eq_false h1
    refine wp_exit ?_
    refine then_exit ?_
    refine then_exit ?_
    refine in_hit ?_
    refine then_normal ?_
    refine wp_seq ?_
    refine at_reg (T := S_spec_l29Has_tab) [] { ts := [4], os := [] } ⟨[(4, aB false)], []⟩ [] gamOK hT h (by kernel_rfl) trivial ?_
    intro a w h
    refine then_normal ?_
    refine wp_ret ?_
    exact at_return (S := S_spec_l29Has) (x := (x0, x1, ())) (false, ()) [] h (by kernel_rfl) trivial (congrArg (fun z => (z, ())) (show (false) = D_spec_l29Has x0 x1 from by unfold D_spec_l29Has; (rw [← idxF_any, idxF_none (z := (0, (0, 0))) (by omega) hok0.2]; rfl)))

theorem flat_take_le {α : Type} (xs : List (List α)) (i : Nat) : (List.flatten (xs.take i)).length ≤ (List.flatten xs).length := by
  have : (List.flatten xs).length = (List.flatten (xs.take i)).length + (List.flatten (xs.drop i)).length := by rw [← List.length_append, ← List.flatten_append, List.take_append_drop]
  omega
theorem flat_snoc {α : Type} {xs : List (List α)} {i : Nat} (h : i < xs.length) : List.flatten (xs.take (i + 1)) = List.flatten (xs.take i) ++ xs.getD i [] := by rw [take_snoc (z := []) h, List.flatten_append]; simp
def pCat (xs : List (List Int)) : Prop := xs.length ≤ 1073741824 ∧ (List.flatten xs).length ≤ 1099511627776
def pKey (_ : Int) (l : List Int) : Prop := l.length ≤ 4294967296
def hashS (d v : Int) : Int := (d * 1000003 + modF v 2147483647 + 13).tmod 2147483647
def hashF (l : List Int) : Int := l.foldl hashS 11
def keyed (k : Int) (l : List Int) : Int := hashF ([k] ++ l ++ [k])
theorem modF_bd (v : Int) : 0 ≤ modF v 2147483647 ∧ modF v 2147483647 < 2147483647 := by
  unfold modF
  rw [if_pos (by decide)]
  have h1 := (tmod_f v 2147483647 (by decide)).1
  have h2 := tmod_f (v.tmod 2147483647 + 2147483647) 2147483647 (by decide)
  omega
theorem hashS_bd {d : Int} (v : Int) (h : 0 ≤ d ∧ d < 2147483647) : 0 ≤ hashS d v ∧ hashS d v < 2147483647 := by
  unfold hashS
  have h1 := modF_bd v
  have h2 := tmod_f (d * 1000003 + modF v 2147483647 + 13) 2147483647 (by decide)
  omega
theorem hashTo_bd (l : List Int) : ∀ (d : Int), (0 ≤ d ∧ d < 2147483647) → 0 ≤ l.foldl hashS d ∧ l.foldl hashS d < 2147483647 := by
  induction l with
  | nil => intro d h; exact h
  | cons v l ih => intro d h; exact ih _ (hashS_bd v h)
theorem hash_bd (l : List Int) (i : Nat) : 0 ≤ foldTo hashS 11 l i ∧ foldTo hashS 11 l i < 2147483647 := hashTo_bd _ _ (by decide)
def linkMAC (k : Int) (l : T63) : Int := keyed k ([103, l.1, l.2.1, l.2.2.1, l.2.2.2.1.1, ((List.length l.2.2.2.1.2.1 : Nat) : Int)] ++ l.2.2.2.1.2.1 ++ l.2.2.2.1.2.2)

def D_slices_Grow_S_int_int__nil := (fun (_ : Unit) (n : Int) => ([] : List Int))
def S_slices_Grow_S_int_int__nil : Sum := { fid := 322, dom := [(.fn0 4294967295), (.int 3)], cod := [s22], dp := true, fz := false, pre := fun x => (fun (_ : Unit) (n : Int) => 0 ≤ n ∧ n ≤ 1099511627776) x.1 x.2.1, g := fun x => ((D_slices_Grow_S_int_int__nil x.1 x.2.1), ()) }
def S_slices_Grow_S_int_int__nil_tab : List (Nat × Sum) := []
theorem S_slices_Grow_S_int_int__nil_ok : FnOK Try.prog 322 S_slices_Grow_S_int_int__nil := by
  refine at_enter 27 (fun x => ⟨[(0, .p (.c (cN))), (1, aI x.2.1)], []⟩) Try.func322 rfl (by kernel_rfl) (fun x => rfl) ?_
  rintro w0 Z0 ⟨x0, x1, u⟩ a w
  revert x0 x1
  intro (x0 : Unit) (x1 : Int) hpre hlens h
  replace h : At w0 Z0 [] 27 ⟨[(0, .p (.c (cN))), (1, aI x1)], []⟩ a w := h
  replace hpre : (fun (_ : Unit) (n : Int) => 0 ≤ n ∧ n ≤ 1099511627776) x0 x1 := hpre
  have hT : TabOK Try.prog S_slices_Grow_S_int_int__nil_tab := .nil
  have hp : 0 ≤ x1 ∧ x1 ≤ 1099511627776 := hpre
  refine wp_seq ?_
  refine at_regq (T := S_slices_Grow_S_int_int__nil_tab) [] { ts := [0, 1, 4], os := [] } [] gamOK hT h (by kernel_rfl) trivial ?_
  intro a w h
  refine then_normal ?_
  refine wp_seq ?_
  refine wp_seq ?_
  refine at_regq (T := S_slices_Grow_S_int_int__nil_tab) [] { ts := [0, 1, 4, 6], os := [] } [] gamOK hT h (by kernel_rfl) trivial ?_
  intro a w h
  refine then_normal ?_
  refine at_test (decide (x1 < 0)) h (by kernel_rfl) (fun h1 => ?_) (fun h1 => ?_)
  · replace h1 : x1 < 0 := of_decide_eq_true h1
    exfalso; omega
  · replace h1 : ¬ (x1 < 0) := of_decide_eq_false h1
    refine wp_skip ?_
    refine then_normal ?_
    refine wp_seq ?_
    refine wp_seq ?_
    refine at_regq (T := S_slices_Grow_S_int_int__nil_tab) [{}, {}, {}, {}, {}, { nw := true }, { nw := true }] { ts := [0, 1, 4], os := [] } [I64 (0 - 0), I64 (x1 - (0 - 0))] gamOK hT h (by kernel_rfl) ⟨⟨by first | omega | (simp only [List.length_append, List.length_cons, List.length_nil, List.length_set, List.length_take, List.length_drop, List.length_replicate, List.length_map, Nat.min_def]; omega) | (simp; done) | (simp; omega) | done, by first | omega | (simp only [List.length_append, List.length_cons, List.length_nil, List.length_set, List.length_take, List.length_drop, List.length_replicate, List.length_map, Nat.min_def]; omega) | (simp; done) | (simp; omega) | done⟩, ⟨by first | omega | (simp only [List.length_append, List.length_cons, List.length_nil, List.length_set, List.length_take, List.length_drop, List.length_replicate, List.length_map, Nat.min_def]; omega) | (simp; done) | (simp; omega) | done, by first | omega | (simp only [List.length_append, List.length_cons, List.length_nil, List.length_set, List.length_take, List.length_drop, List.length_replicate, List.length_map, Nat.min_def]; omega) | (simp; done) | (simp; omega) | done⟩, trivial⟩ ?_
    intro a w h
    refine then_normal ?_
    refine wp_seq ?_
    refine at_reg (T := S_slices_Grow_S_int_int__nil_tab) [] { ts := [0, 1, 4, 16], os := [] } ⟨[(0, .p (.c (cN))), (1, aI (x1 - (0 - 0))), (4, .p (.c (cN))), (16, aB (decide (x1 - (0 - 0) > 0)))], []⟩ [] gamOK hT h (by kernel_rfl) trivial ?_
    intro a w h
    refine then_normal ?_
    refine at_test (decide (x1 - (0 - 0) > 0)) h (by kernel_rfl) (fun h2 => ?_) (fun h2 => ?_)
    · replace h2 : x1 - (0 - 0) > 0 := of_decide_eq_true h2
      refine at_regq (T := S_slices_Grow_S_int_int__nil_tab) [{}, {}, {}, {}, {}, { ids := [1] }, {}, {}, { ids := [2] }] { ts := [0, 4], os := [2] } [(0 : Int) ≤ 0 ∧ (0 : Int) ≤ 0 ∧ (0 : Int) ≤ 0, (0 : Int) < x1 - (0 - 0) ∧ (x1 - (0 - 0)) * (8 : Nat) ≤ (140737488355328 : Int), (0 : Int) ≤ 0 ∧ 0 ≤ ((List.length (List.replicate ((x1 - (0 - 0)).toNat) (0 : Int)) : Nat) : Int)] gamOK hT h (by kernel_rfl) ⟨(by refine ⟨?_, ?_, ?_⟩ <;> (first | omega | (simp only [List.length_append, List.length_cons, List.length_nil, List.length_set, List.length_take, List.length_drop, List.length_replicate, List.length_map, Nat.min_def]; omega) | (simp; done) | (simp; omega) | done)), (by refine ⟨?_, ?_⟩ <;> ((have hA0 := mul_f (x1 - (0 - 0)) (8 : Nat); first | omega | (simp only [List.length_append, List.length_cons, List.length_nil, List.length_set, List.length_take, List.length_drop, List.length_replicate, List.length_map, Nat.min_def]; omega) | (simp; done) | (simp; omega) | done))), (by refine ⟨?_, ?_⟩ <;> (first | omega | (simp only [List.length_append, List.length_cons, List.length_nil, List.length_set, List.length_take, List.length_drop, List.length_replicate, List.length_map, Nat.min_def]; omega) | (simp; done) | (simp; omega) | done)), trivial⟩ ?_
      intro a w h
      refine then_normal ?_
      refine wp_seq ?_
      refine at_regq (T := S_slices_Grow_S_int_int__nil_tab) [] { ts := [4], os := [2] } [] gamOK hT h (by kernel_rfl) trivial ?_
      intro a w h
      refine then_normal ?_
      refine wp_ret ?_
      exact at_return (S := S_slices_Grow_S_int_int__nil) (x := (x0, x1, ())) ((List.take 0 (List.replicate ((x1 - (0 - 0)).toNat) (0 : Int))), ()) [] h (by kernel_rfl) trivial (congrArg (fun z => (z, ())) (show ((List.take 0 (List.replicate ((x1 - (0 - 0)).toNat) (0 : Int)))) = D_slices_Grow_S_int_int__nil x0 x1 from by unfold D_slices_Grow_S_int_int__nil; first | rfl | simp))
    · replace h2 : ¬ (x1 - (0 - 0) > 0) := of_decide_eq_false h2
      refine wp_skip ?_
      refine then_normal ?_
      refine wp_seq ?_
      refine at_regq (T := S_slices_Grow_S_int_int__nil_tab) [] { ts := [4], os := [] } [] gamOK hT h (by kernel_rfl) trivial ?_
      intro a w h
      refine then_normal ?_
      refine wp_ret ?_
      exact at_return (S := S_slices_Grow_S_int_int__nil) (x := (x0, x1, ())) (([] : List Int), ()) [] h (by kernel_rfl) trivial (congrArg (fun z => (z, ())) (show (([] : List Int)) = D_slices_Grow_S_int_int__nil x0 x1 from by unfold D_slices_Grow_S_int_int__nil; first | rfl | simp))

def D_slices_Concat_S_int_int_ := (fun (xs : List (List Int)) => List.flatten xs)
def S_slices_Concat_S_int_int_ : Sum := { fid := 295, dom := [s97], cod := [s22], dp := true, fz := false, pre := fun x => pCat x.1, g := fun x => ((D_slices_Concat_S_int_int_ x.1), ()) }
def S_slices_Concat_S_int_int__tab : List (Nat × Sum) := [(100003, S_slices_Grow_S_int_int__nil)]
theorem S_slices_Concat_S_int_int__ok : FnOK Try.prog 295 S_slices_Concat_S_int_int_ := by
  refine at_enter 36 (fun x => ⟨[(0, aF s22 x.1)], []⟩) Try.func295 rfl (by kernel_rfl) (fun x => rfl) ?_
  rintro w0 Z0 ⟨x0, u⟩ a w
  revert x0
  intro (x0 : (List (List Int))) hpre hlens h
  replace h : At w0 Z0 [] 36 ⟨[(0, aF s22 x0)], []⟩ a w := h
  replace hpre : pCat x0 := hpre
  have hl1 : List.length x0 ≤ 9223372036854775807 := hlens.1.1
  have hT : TabOK Try.prog S_slices_Concat_S_int_int__tab := (.cons S_slices_Grow_S_int_int__nil_ok .nil)
  have hp : List.length x0 ≤ 1073741824 ∧ List.length (List.flatten x0) ≤ 1099511627776 := hpre
  refine wp_seq ?_
  refine at_regq (T := S_slices_Concat_S_int_int__tab) [] { ts := [0, 2], os := [] } [] gamOK hT h (by kernel_rfl) trivial ?_
  intro a w h
  refine then_normal ?_
  refine wp_seq ?_
  refine at_regq (T := S_slices_Concat_S_int_int__tab) [] { ts := [0, 2, 3], os := [] } [] gamOK hT h (by kernel_rfl) trivial ?_
  intro a w h
  refine then_normal ?_
  refine wp_seq ?_
  refine wp_seq ?_
  refine at_regq (T := S_slices_Concat_S_int_int__tab) [] { ts := [0, 2, 3, 9, 10, 11], os := [] } [] gamOK hT h (by kernel_rfl) trivial ?_
  intro a w h
  refine then_normal ?_
  refine wp_block ?_
  replace h := at_out (σ' := ⟨[(0, aF s22 x0), (2, .p (.c (cN))), (3, aI 0), (9, aF s22 x0), (10, aI ((List.length x0 : Nat) : Int)), (11, aI 0)], []⟩) { ts := [0, 2, 3, 9, 10, 11], os := [] } h (by kernel_rfl)
  refine at_loop (fun i : Nat => (⟨[(0, aF s22 x0), (2, .p (.c (cN))), (3, aI ((List.length (List.flatten (List.take i x0)) : Nat) : Int)), (9, aF s22 x0), (10, aI ((List.length x0 : Nat) : Int)), (11, aI ((i : Nat) : Int))], []⟩ : St)) (fun i => i ≤ List.length x0) (fun i => List.length x0 - i) (0) h (st_congr2 (fun (d0 : Int) (d1 : Int) => (⟨[(0, aF s22 x0), (2, .p (.c (cN))), (3, aI d0), (9, aF s22 x0), (10, aI ((List.length x0 : Nat) : Int)), (11, aI d1)], []⟩ : St)) (show (0 : Int) = ((List.length (List.flatten (List.take (0) x0)) : Nat) : Int) from by first | with_reducible rfl | (rfl) | rfl) (show (0 : Int) = (((0) : Nat) : Int) from by first | with_reducible rfl | (rfl) | rfl)) (by omega) ?_
  intro i a w hok0 h
  have hft := flat_take_le x0 i
  refine wp_seq ?_
  refine at_reg (T := S_slices_Concat_S_int_int__tab) [] { ts := [0, 2, 3, 9, 10, 11, 12], os := [] } ⟨[(0, aF s22 x0), (2, .p (.c (cN))), (3, aI ((List.length (List.flatten (List.take i x0)) : Nat) : Int)), (9, aF s22 x0), (10, aI ((List.length x0 : Nat) : Int)), (11, aI ((i : Nat) : Int)), (12, aB (decide (((i : Nat) : Int) < ((List.length x0 : Nat) : Int))))], []⟩ [] gamOK hT h (by kernel_rfl) trivial ?_
  intro a w h
  refine then_normal ?_
  refine wp_seq ?_
  refine at_test (decide (((i : Nat) : Int) < ((List.length x0 : Nat) : Int))) h (by kernel_rfl) (fun h1 => ?_) (fun h1 => ?_)
  · replace h1 : ((i : Nat) : Int) < ((List.length x0 : Nat) : Int) := of_decide_eq_true h1
    have hfs := flat_snoc (xs := x0) (i := i) (by omega)
    have hft1 := flat_take_le x0 (i + 1)
    rw [hfs, List.length_append] at hft1
    refine wp_skip ?_
    refine then_normal ?_
    refine wp_seq ?_
    refine wp_block ?_
    refine wp_seq ?_
    refine at_regq (T := S_slices_Concat_S_int_int__tab) [] { ts := [0, 2, 3, 5, 9, 10, 11], os := [] } [(0 : Int) ≤ ((i : Nat) : Int) ∧ ((i : Nat) : Int) < ((List.length x0 : Nat) : Int)] gamOK hT h (by kernel_rfl) ⟨(by refine ⟨?_, ?_⟩ <;> (first | omega | (simp only [List.length_append, List.length_cons, List.length_nil, List.length_set, List.length_take, List.length_drop, List.length_replicate, List.length_map, Nat.min_def]; omega) | (simp; done) | (simp; omega) | done)), trivial⟩ ?_
    intro a w h
    refine then_normal ?_
    refine wp_seq ?_
    refine at_regq (T := S_slices_Concat_S_int_int__tab) [{}, {}, {}, { nw := true }] { ts := [0, 2, 3, 9, 10, 11], os := [] } [I64 (((List.length (List.flatten (List.take i x0)) : Nat) : Int) + ((List.length (x0.getD i []) : Nat) : Int))] gamOK hT h (by kernel_rfl) ⟨⟨by first | omega | (simp only [List.length_append, List.length_cons, List.length_nil, List.length_set, List.length_take, List.length_drop, List.length_replicate, List.length_map, Nat.min_def]; omega) | (simp; done) | (simp; omega) | done, by first | omega | (simp only [List.length_append, List.length_cons, List.length_nil, List.length_set, List.length_take, List.length_drop, List.length_replicate, List.length_map, Nat.min_def]; omega) | (simp; done) | (simp; omega) | done⟩, trivial⟩ ?_
    intro a w h
    refine then_normal ?_
    refine wp_seq ?_
    refine at_regq (T := S_slices_Concat_S_int_int__tab) [] { ts := [0, 2, 3, 9, 10, 11, 20], os := [] } [] gamOK hT h (by kernel_rfl) trivial ?_
    intro a w h
    refine then_normal ?_
    refine at_test (decide (((List.length (List.flatten (List.take i x0)) : Nat) : Int) + ((List.length (x0.getD i []) : Nat) : Int) < 0)) h (by kernel_rfl) (fun h2 => ?_) (fun h2 => ?_)
    · replace h2 : ((List.length (List.flatten (List.take i x0)) : Nat) : Int) + ((List.length (x0.getD i []) : Nat) : Int) < 0 := of_decide_eq_true h2
      exfalso; omega
    · replace h2 : ¬ (((List.length (List.flatten (List.take i x0)) : Nat) : Int) + ((List.length (x0.getD i []) : Nat) : Int) < 0) := of_decide_eq_false h2
      refine wp_skip ?_
      refine in_normal ?_
      refine then_normal ?_
      refine at_reg (T := S_slices_Concat_S_int_int__tab) [{ nw := true }] { ts := [0, 2, 3, 9, 10, 11], os := [] } ⟨[(0, aF s22 x0), (2, .p (.c (cN))), (3, aI (((List.length (List.flatten (List.take i x0)) : Nat) : Int) + ((List.length (x0.getD i []) : Nat) : Int))), (9, aF s22 x0), (10, aI ((List.length x0 : Nat) : Int)), (11, aI (((i : Nat) : Int) + 1))], []⟩ [I64 (((i : Nat) : Int) + 1)] gamOK hT h (by kernel_rfl) ⟨⟨by first | omega | (simp only [List.length_append, List.length_cons, List.length_nil, List.length_set, List.length_take, List.length_drop, List.length_replicate, List.length_map, Nat.min_def]; omega) | (simp; done) | (simp; omega) | done, by first | omega | (simp only [List.length_append, List.length_cons, List.length_nil, List.length_set, List.length_take, List.length_drop, List.length_replicate, List.length_map, Nat.min_def]; omega) | (simp; done) | (simp; omega) | done⟩, trivial⟩ ?_
      intro a w h
      replace h := at_out (σ' := ⟨[(0, aF s22 x0), (2, .p (.c (cN))), (3, aI (((List.length (List.flatten (List.take i x0)) : Nat) : Int) + ((List.length (x0.getD i []) : Nat) : Int))), (9, aF s22 x0), (10, aI ((List.length x0 : Nat) : Int)), (11, aI (((i : Nat) : Int) + 1))], []⟩) { ts := [0, 2, 3, 9, 10, 11], os := [] } h (by kernel_rfl)
      exact ⟨i + 1, at_eq h (st_congr2 (fun (d0 : Int) (d1 : Int) => (⟨[(0, aF s22 x0), (2, .p (.c (cN))), (3, aI d0), (9, aF s22 x0), (10, aI ((List.length x0 : Nat) : Int)), (11, aI d1)], []⟩ : St)) (show (((List.length (List.flatten (List.take i x0)) : Nat) : Int) + ((List.length (x0.getD i []) : Nat) : Int) : Int) = ((List.length (List.flatten (List.take (i + 1) x0)) : Nat) : Int) from by first | with_reducible rfl | (rw [flat_snoc (by omega), List.length_append]; omega) | rfl) (show (((i : Nat) : Int) + 1 : Int) = (((i + 1) : Nat) : Int) from by first | with_reducible rfl | (omega) | rfl)), (by omega), (by omega)⟩
  · replace h1 : ¬ (((i : Nat) : Int) < ((List.length x0 : Nat) : Int)) := of_decide_eq_false h1
    refine wp_exit ?_
    refine then_exit ?_
    replace h := at_out (σ' := ⟨[(0, aF s22 x0), (2, .p (.c (cN))), (3, aI ((List.length (List.flatten (List.take i x0)) : Nat) : Int))], []⟩) { ts := [0, 2, 3], os := [] } h (by kernel_rfl)
    replace h := at_eq (σ' := ⟨[(0, aF s22 x0), (2, .p (.c (cN))), (3, aI ((List.length (List.flatten x0) : Nat) : Int))], []⟩) h (st_congr1 (fun (d0 : Int) => (⟨[(0, aF s22 x0), (2, .p (.c (cN))), (3, aI d0)], []⟩ : St)) (show (((List.length (List.flatten (List.take i x0)) : Nat) : Int) : Int) = ((List.length (List.flatten x0) : Nat) : Int) from by first | with_reducible rfl | (rw [take_all (by omega)]) | rfl))
    refine then_exit ?_
    refine in_hit ?_
    refine then_normal ?_
    refine wp_seq ?_
    refine at_regq (T := S_slices_Concat_S_int_int__tab) [{}, { ids := [1], key := some 100003 }] { ts := [0, 2, 6], os := [1] } [(fun (_ : Unit) (n : Int) => 0 ≤ n ∧ n ≤ 1099511627776) () ((List.length (List.flatten x0) : Nat) : Int)] gamOK hT h (by kernel_rfl) ⟨(by (show (0 : Int) ≤ _ ∧ _ ≤ (1099511627776 : Int); omega)), trivial⟩ ?_
    intro a w h
    refine then_normal ?_
    refine wp_seq ?_
    refine wp_seq ?_
    refine at_regq (T := S_slices_Concat_S_int_int__tab) [] { ts := [2, 6, 25, 26, 27], os := [1] } [] gamOK hT h (by kernel_rfl) trivial ?_
    intro a w h
    refine then_normal ?_
    refine wp_block ?_
    replace h := at_out (σ' := ⟨[(2, .p (.c (cN))), (6, aS 1), (25, aF s22 x0), (26, aI ((List.length x0 : Nat) : Int)), (27, aI 0)], [(1, oR (.int 3) (D_slices_Grow_S_int_int__nil () ((List.length (List.flatten x0) : Nat) : Int)))]⟩) { ts := [2, 6, 25, 26, 27], os := [1] } h (by kernel_rfl)
    refine at_loop (fun i : Nat => (⟨[(2, .p (.c (cN))), (6, aS 1), (25, aF s22 x0), (26, aI ((List.length x0 : Nat) : Int)), (27, aI ((i : Nat) : Int))], [(1, oR (.int 3) (List.flatten (List.take i x0)))]⟩ : St)) (fun i => i ≤ List.length x0) (fun i => List.length x0 - i) (0) h (st_congr2 (fun (d0 : List Int) (d1 : Int) => (⟨[(2, .p (.c (cN))), (6, aS 1), (25, aF s22 x0), (26, aI ((List.length x0 : Nat) : Int)), (27, aI d1)], [(1, oR (.int 3) d0)]⟩ : St)) (show ((D_slices_Grow_S_int_int__nil () ((List.length (List.flatten x0) : Nat) : Int)) : List Int) = (List.flatten (List.take (0) x0)) from by first | with_reducible rfl | (rfl) | rfl) (show (0 : Int) = (((0) : Nat) : Int) from by first | with_reducible rfl | (rfl) | rfl)) (by omega) ?_
    intro i a w hok1 h
    have hft := flat_take_le x0 i
    refine wp_seq ?_
    refine at_regq (T := S_slices_Concat_S_int_int__tab) [] { ts := [2, 6, 25, 26, 27, 28], os := [1] } [] gamOK hT h (by kernel_rfl) trivial ?_
    intro a w h
    refine then_normal ?_
    refine wp_seq ?_
    refine at_test (decide (((i : Nat) : Int) < ((List.length x0 : Nat) : Int))) h (by kernel_rfl) (fun h3 => ?_) (fun h3 => ?_)
    · replace h3 : ((i : Nat) : Int) < ((List.length x0 : Nat) : Int) := of_decide_eq_true h3
      have hfs := flat_snoc (xs := x0) (i := i) (by omega)
      have hft1 := flat_take_le x0 (i + 1)
      rw [hfs, List.length_append] at hft1
      refine wp_skip ?_
      refine then_normal ?_
      refine wp_seq ?_
      refine wp_block ?_
      refine wp_seq ?_
      refine at_reg (T := S_slices_Concat_S_int_int__tab) [] { ts := [2, 6, 8, 25, 26, 27], os := [1] } ⟨[(2, .p (.c (cN))), (6, aS 1), (8, aF (.int 3) (x0.getD i [])), (25, aF s22 x0), (26, aI ((List.length x0 : Nat) : Int)), (27, aI ((i : Nat) : Int))], [(1, oR (.int 3) (List.flatten (List.take i x0)))]⟩ [(0 : Int) ≤ ((i : Nat) : Int) ∧ ((i : Nat) : Int) < ((List.length x0 : Nat) : Int)] gamOK hT h (by kernel_rfl) ⟨(by refine ⟨?_, ?_⟩ <;> (first | omega | (simp only [List.length_append, List.length_cons, List.length_nil, List.length_set, List.length_take, List.length_drop, List.length_replicate, List.length_map, Nat.min_def]; omega) | (simp; done) | (simp; omega) | done)), trivial⟩ ?_
      intro a w h
      refine then_normal ?_
      refine at_regq (T := S_slices_Concat_S_int_int__tab) [{}, {}, { ids := [2] }] { ts := [2, 6, 25, 26, 27], os := [2] } [(List.length (List.flatten (List.take i x0)) + List.length (x0.getD i [])) * 8 ≤ 140737488355328] gamOK hT h (by kernel_rfl) ⟨(by first | omega | (simp only [List.length_append, List.length_cons, List.length_nil, List.length_set, List.length_take, List.length_drop, List.length_replicate, List.length_map, Nat.min_def]; omega) | (simp; done) | (simp; omega) | done), trivial⟩ ?_
      intro a w h
      refine in_normal ?_
      refine then_normal ?_
      refine at_regq (T := S_slices_Concat_S_int_int__tab) [{ nw := true }] { ts := [2, 6, 25, 26, 27], os := [2] } [I64 (((i : Nat) : Int) + 1)] gamOK hT h (by kernel_rfl) ⟨⟨by first | omega | (simp only [List.length_append, List.length_cons, List.length_nil, List.length_set, List.length_take, List.length_drop, List.length_replicate, List.length_map, Nat.min_def]; omega) | (simp; done) | (simp; omega) | done, by first | omega | (simp only [List.length_append, List.length_cons, List.length_nil, List.length_set, List.length_take, List.length_drop, List.length_replicate, List.length_map, Nat.min_def]; omega) | (simp; done) | (simp; omega) | done⟩, trivial⟩ ?_
      intro a w h
      replace h := at_out (σ' := ⟨[(2, .p (.c (cN))), (6, aS 1), (25, aF s22 x0), (26, aI ((List.length x0 : Nat) : Int)), (27, aI (((i : Nat) : Int) + 1))], [(1, oR (.int 3) ((List.flatten (List.take i x0)) ++ (x0.getD i [])))]⟩) { ts := [2, 6, 25, 26, 27], os := [2], rn := [(2, 1)] } h (by kernel_rfl)
      exact ⟨i + 1, at_eq h (st_congr2 (fun (d0 : List Int) (d1 : Int) => (⟨[(2, .p (.c (cN))), (6, aS 1), (25, aF s22 x0), (26, aI ((List.length x0 : Nat) : Int)), (27, aI d1)], [(1, oR (.int 3) d0)]⟩ : St)) (show (((List.flatten (List.take i x0)) ++ (x0.getD i [])) : List Int) = (List.flatten (List.take (i + 1) x0)) from by first | with_reducible rfl | (rw [flat_snoc (by omega)]) | rfl) (show (((i : Nat) : Int) + 1 : Int) = (((i + 1) : Nat) : Int) from by first | with_reducible rfl | (omega) | rfl)), (by omega), (by omega)⟩
    · replace h3 : ¬ (((i : Nat) : Int) < ((List.length x0 : Nat) : Int)) := of_decide_eq_false h3
      refine wp_exit ?_
      refine then_exit ?_
      replace h := at_out (σ' := ⟨[(2, .p (.c (cN))), (6, aS 1)], [(1, oR (.int 3) (List.flatten (List.take i x0)))]⟩) { ts := [2, 6], os := [1] } h (by kernel_rfl)
      replace h := at_eq (σ' := ⟨[(2, .p (.c (cN))), (6, aS 1)], [(1, oR (.int 3) (List.flatten x0))]⟩) h (st_congr1 (fun (d0 : List Int) => (⟨[(2, .p (.c (cN))), (6, aS 1)], [(1, oR (.int 3) d0)]⟩ : St)) (show ((List.flatten (List.take i x0)) : List Int) = (List.flatten x0) from by first | with_reducible rfl | (rw [take_all (by omega)]) | rfl))
      refine then_exit ?_
      refine in_hit ?_
      refine then_normal ?_
      refine wp_seq ?_
      refine at_reg (T := S_slices_Concat_S_int_int__tab) [] { ts := [2], os := [1] } ⟨[(2, aS 1)], [(1, oR (.int 3) (List.flatten x0))]⟩ [] gamOK hT h (by kernel_rfl) trivial ?_
      intro a w h
      refine then_normal ?_
      refine wp_ret ?_
      exact at_return (S := S_slices_Concat_S_int_int_) (x := (x0, ())) ((List.flatten x0), ()) [] h (by kernel_rfl) trivial (congrArg (fun z => (z, ())) (show ((List.flatten x0)) = D_slices_Concat_S_int_int_ x0 from by unfold D_slices_Concat_S_int_int_; rfl))

def S_impl_Hash : Sum := { fid := 325, dom := [s22], cod := [(.int 3)], dp := true, fz := false, pre := fun x => True, g := fun x => ((hashF x.1), ()) }
def S_impl_Hash_tab : List (Nat × Sum) := [(333, S_impl_Mod)]
theorem S_impl_Hash_ok : FnOK Try.prog 325 S_impl_Hash := by
  refine at_enter 21 (fun x => ⟨[(0, aF (.int 3) x.1)], []⟩) Try.func325 rfl (by kernel_rfl) (fun x => rfl) ?_
  rintro w0 Z0 ⟨x0, u⟩ a w
  revert x0
  intro (x0 : (List Int)) hpre hlens h
  replace h : At w0 Z0 [] 21 ⟨[(0, aF (.int 3) x0)], []⟩ a w := h
  have hl1 : List.length x0 ≤ 9223372036854775807 := hlens.1.1
  have hT : TabOK Try.prog S_impl_Hash_tab := (.cons S_impl_Mod_ok .nil)
  refine wp_seq ?_
  refine at_regq (T := S_impl_Hash_tab) [] { ts := [0, 2], os := [] } [] gamOK hT h (by kernel_rfl) trivial ?_
  intro a w h
  refine then_normal ?_
  refine wp_seq ?_
  refine at_regq (T := S_impl_Hash_tab) [] { ts := [0, 2, 3], os := [] } [] gamOK hT h (by kernel_rfl) trivial ?_
  intro a w h
  refine then_normal ?_
  refine wp_seq ?_
  refine wp_seq ?_
  refine at_regq (T := S_impl_Hash_tab) [] { ts := [2, 3, 6, 7, 8], os := [] } [] gamOK hT h (by kernel_rfl) trivial ?_
  intro a w h
  refine then_normal ?_
  refine wp_block ?_
  replace h := at_out (σ' := ⟨[(2, aI 0), (3, aI 11), (6, aF (.int 3) x0), (7, aI ((List.length x0 : Nat) : Int)), (8, aI 0)], []⟩) { ts := [2, 3, 6, 7, 8], os := [] } h (by kernel_rfl)
  refine at_loop (fun i : Nat => (⟨[(2, aI 0), (3, aI (foldTo hashS 11 x0 i)), (6, aF (.int 3) x0), (7, aI ((List.length x0 : Nat) : Int)), (8, aI ((i : Nat) : Int))], []⟩ : St)) (fun i => i ≤ List.length x0) (fun i => List.length x0 - i) (0) h (st_congr2 (fun (d0 : Int) (d1 : Int) => (⟨[(2, aI 0), (3, aI d0), (6, aF (.int 3) x0), (7, aI ((List.length x0 : Nat) : Int)), (8, aI d1)], []⟩ : St)) (show (11 : Int) = (foldTo hashS 11 x0 (0)) from by first | with_reducible rfl | (first | rfl | simp) | rfl) (show (0 : Int) = (((0) : Nat) : Int) from by first | with_reducible rfl | (first | rfl | simp) | rfl)) (by omega) ?_
  intro i a w hok0 h
  have hbd := hash_bd x0 i
  refine wp_seq ?_
  refine at_reg (T := S_impl_Hash_tab) [] { ts := [2, 3, 6, 7, 8, 9], os := [] } ⟨[(2, aI 0), (3, aI (foldTo hashS 11 x0 i)), (6, aF (.int 3) x0), (7, aI ((List.length x0 : Nat) : Int)), (8, aI ((i : Nat) : Int)), (9, aB (decide (((i : Nat) : Int) < ((List.length x0 : Nat) : Int))))], []⟩ [] gamOK hT h (by kernel_rfl) trivial ?_
  intro a w h
  refine then_normal ?_
  refine wp_seq ?_
  refine at_test (decide (((i : Nat) : Int) < ((List.length x0 : Nat) : Int))) h (by kernel_rfl) (fun h1 => ?_) (fun h1 => ?_)
  · replace h1 : ((i : Nat) : Int) < ((List.length x0 : Nat) : Int) := of_decide_eq_true h1
    have hmb := modF_bd (x0.getD i 0)
    refine wp_skip ?_
    refine then_normal ?_
    refine wp_seq ?_
    refine wp_block ?_
    refine wp_seq ?_
    refine at_regq (T := S_impl_Hash_tab) [] { ts := [2, 3, 5, 6, 7, 8], os := [] } [(0 : Int) ≤ ((i : Nat) : Int) ∧ ((i : Nat) : Int) < ((List.length x0 : Nat) : Int)] gamOK hT h (by kernel_rfl) ⟨(by refine ⟨?_, ?_⟩ <;> (first | omega | (simp only [List.length_append, List.length_cons, List.length_nil, List.length_set, List.length_take, List.length_drop, List.length_replicate, List.length_map, Nat.min_def]; omega) | (simp; done) | (simp; omega) | done)), trivial⟩ ?_
    intro a w h
    refine then_normal ?_
    refine at_regq (T := S_impl_Hash_tab) [{}, { nw := true }, {}, {}, { nw := true }, { nw := true }] { ts := [2, 3, 6, 7, 8], os := [] } [I64 ((foldTo hashS 11 x0 i) * 1000003), True, I64 (((foldTo hashS 11 x0 i) * 1000003) + (modF (x0.getD i 0) 2147483647)), I64 ((((foldTo hashS 11 x0 i) * 1000003) + (modF (x0.getD i 0) 2147483647)) + 13), (2147483647 : Int) ≠ 0] gamOK hT h (by kernel_rfl) ⟨⟨by first | omega | (simp only [List.length_append, List.length_cons, List.length_nil, List.length_set, List.length_take, List.length_drop, List.length_replicate, List.length_map, Nat.min_def]; omega) | (simp; done) | (simp; omega) | done, by first | omega | (simp only [List.length_append, List.length_cons, List.length_nil, List.length_set, List.length_take, List.length_drop, List.length_replicate, List.length_map, Nat.min_def]; omega) | (simp; done) | (simp; omega) | done⟩, trivial, ⟨by first | omega | (simp only [List.length_append, List.length_cons, List.length_nil, List.length_set, List.length_take, List.length_drop, List.length_replicate, List.length_map, Nat.min_def]; omega) | (simp; done) | (simp; omega) | done, by first | omega | (simp only [List.length_append, List.length_cons, List.length_nil, List.length_set, List.length_take, List.length_drop, List.length_replicate, List.length_map, Nat.min_def]; omega) | (simp; done) | (simp; omega) | done⟩, ⟨by first | omega | (simp only [List.length_append, List.length_cons, List.length_nil, List.length_set, List.length_take, List.length_drop, List.length_replicate, List.length_map, Nat.min_def]; omega) | (simp; done) | (simp; omega) | done, by first | omega | (simp only [List.length_append, List.length_cons, List.length_nil, List.length_set, List.length_take, List.length_drop, List.length_replicate, List.length_map, Nat.min_def]; omega) | (simp; done) | (simp; omega) | done⟩, (by first | omega | (simp only [List.length_append, List.length_cons, List.length_nil, List.length_set, List.length_take, List.length_drop, List.length_replicate, List.length_map, Nat.min_def]; omega) | (simp; done) | (simp; omega) | done), trivial⟩ ?_
    intro a w h
    refine in_normal ?_
    refine then_normal ?_
    refine at_regq (T := S_impl_Hash_tab) [{ nw := true }] { ts := [2, 3, 6, 7, 8], os := [] } [I64 (((i : Nat) : Int) + 1)] gamOK hT h (by kernel_rfl) ⟨⟨by first | omega | (simp only [List.length_append, List.length_cons, List.length_nil, List.length_set, List.length_take, List.length_drop, List.length_replicate, List.length_map, Nat.min_def]; omega) | (simp; done) | (simp; omega) | done, by first | omega | (simp only [List.length_append, List.length_cons, List.length_nil, List.length_set, List.length_take, List.length_drop, List.length_replicate, List.length_map, Nat.min_def]; omega) | (simp; done) | (simp; omega) | done⟩, trivial⟩ ?_
    intro a w h
    replace h := at_out (σ' := ⟨[(2, aI 0), (3, aI (Int.tmod ((((foldTo hashS 11 x0 i) * 1000003) + (modF (x0.getD i 0) 2147483647)) + 13) 2147483647)), (6, aF (.int 3) x0), (7, aI ((List.length x0 : Nat) : Int)), (8, aI (((i : Nat) : Int) + 1))], []⟩) { ts := [2, 3, 6, 7, 8], os := [] } h (by kernel_rfl)
    exact ⟨i + 1, at_eq h (st_congr2 (fun (d0 : Int) (d1 : Int) => (⟨[(2, aI 0), (3, aI d0), (6, aF (.int 3) x0), (7, aI ((List.length x0 : Nat) : Int)), (8, aI d1)], []⟩ : St)) (show ((Int.tmod ((((foldTo hashS 11 x0 i) * 1000003) + (modF (x0.getD i 0) 2147483647)) + 13) 2147483647) : Int) = (foldTo hashS 11 x0 (i + 1)) from by first | with_reducible rfl | (rw [foldTo_succ 0 (by omega)]; first | rfl | (simp_all; done)) | rfl) (show (((i : Nat) : Int) + 1 : Int) = (((i + 1) : Nat) : Int) from by first | with_reducible rfl | (omega) | rfl)), (by omega), (by omega)⟩
  · replace h1 : ¬ (((i : Nat) : Int) < ((List.length x0 : Nat) : Int)) := of_decide_eq_false h1
    refine wp_exit ?_
    refine then_exit ?_
    replace h := at_out (σ' := ⟨[(2, aI 0), (3, aI (foldTo hashS 11 x0 i))], []⟩) { ts := [2, 3], os := [] } h (by kernel_rfl)
    replace h := at_eq (σ' := ⟨[(2, aI 0), (3, aI (List.foldl hashS 11 x0))], []⟩) h (st_congr1 (fun (d0 : Int) => (⟨[(2, aI 0), (3, aI d0)], []⟩ : St)) (show ((foldTo hashS 11 x0 i) : Int) = (List.foldl hashS 11 x0) from by first | with_reducible rfl | (rw [foldTo_all (by omega)]) | rfl))
    refine then_exit ?_
    refine in_hit ?_
    refine then_normal ?_
    refine wp_seq ?_
    refine at_regq (T := S_impl_Hash_tab) [] { ts := [2], os := [] } [] gamOK hT h (by kernel_rfl) trivial ?_
    intro a w h
    refine then_normal ?_
    refine wp_ret ?_
    exact at_return (S := S_impl_Hash) (x := (x0, ())) ((List.foldl hashS 11 x0), ()) [] h (by kernel_rfl) trivial (congrArg (fun z => (z, ())) (show ((List.foldl hashS 11 x0)) = hashF x0 from by rfl))

end Go.Proofs.Ytdmkjcnppgfeoaa

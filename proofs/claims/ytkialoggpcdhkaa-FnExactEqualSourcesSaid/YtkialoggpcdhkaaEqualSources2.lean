/- The law FnExactEqualSources returns true for every input and leaves its arguments as they were. No condition. -/
import Derived.Test.YtkialoggpcdhkaaEqualSources1
import Derived.Test.YtkialoggpcdhkaaProg
import Derived.Test.YtkialoggpcdhkaaRows
import Derived.Test.YtkialoggpcdhkaaFX
namespace Go.Proofs.Ytkialoggpcdhkaa
open Go.RowKit
set_option linter.unusedVariables false
set_option linter.unusedSimpArgs false
def S_laws_toSendWindow : Sum := { fid := 107, dom := [s58], cod := [s67], dp := true, fz := false, pre := fun x => (pTo s58) x.1, g := fun x => (((idD s58) x.1), ()) }
def S_laws_toSendWindow_tab : List (Nat × Sum) := []
theorem S_laws_toSendWindow_ok : FnOK Try.prog 107 S_laws_toSendWindow := by
  refine at_enter 17 (fun x => ⟨[(0, aG [cI x.1.1, cI x.1.2.1, cI x.1.2.2.1, cI x.1.2.2.2])], []⟩) Try.func107 rfl (by kernel_rfl) (fun x => rfl) ?_
  rintro w0 Z0 ⟨x0, u⟩ a w
  revert x0
  intro (x0 : T58) hpre hlens h
  replace h : At w0 Z0 [] 17 ⟨[(0, aG [cI x0.1, cI x0.2.1, cI x0.2.2.1, cI x0.2.2.2])], []⟩ a w := h
  replace hpre : (pTo s58) x0 := hpre
  have hT : TabOK Try.prog S_laws_toSendWindow_tab := .nil
  have hp : Sh.sz s58 x0 ≤ 1048576 := hpre
  have hsz : Sh.sz s58 x0 = (0 + (0 + (0 + 0))) := rfl
  refine wp_seq ?_
  refine at_regq (T := S_laws_toSendWindow_tab) [{ ids := [1] }, { ids := [2] }] { ts := [1, 2], os := [1, 2] } [] gamOK hT h (by kernel_rfl) trivial ?_
  intro a w h
  refine then_normal ?_
  refine wp_seq ?_
  refine at_regq (T := S_laws_toSendWindow_tab) [{ ids := [3] }] { ts := [1, 2, 3], os := [1, 2, 3] } [] gamOK hT h (by kernel_rfl) trivial ?_
  intro a w h
  refine then_normal ?_
  refine wp_seq ?_
  refine at_regq (T := S_laws_toSendWindow_tab) [] { ts := [1, 2, 3], os := [1, 2, 3] } [] gamOK hT h (by kernel_rfl) trivial ?_
  intro a w h
  refine then_normal ?_
  refine wp_seq ?_
  refine at_reg (T := S_laws_toSendWindow_tab) [] { ts := [1, 2, 3], os := [1, 2, 3] } ⟨[(1, aP 1 0), (2, aP 2 0), (3, aP 3 0)], [(1, oX 58 [cI x0.1, cI x0.2.1, cI x0.2.2.1, cI x0.2.2.2]), (2, oX 67 [cI 0, cI 0, cI 0, cI 0]), (3, oX 67 [cI x0.1, cI x0.2.1, cI 0, cI 0])]⟩ [] gamOK hT h (by kernel_rfl) trivial ?_
  intro a w h
  refine then_normal ?_
  refine wp_seq ?_
  refine at_regq (T := S_laws_toSendWindow_tab) [] { ts := [1, 2, 3], os := [1, 2, 3] } [] gamOK hT h (by kernel_rfl) trivial ?_
  intro a w h
  refine then_normal ?_
  refine wp_seq ?_
  refine at_regq (T := S_laws_toSendWindow_tab) [] { ts := [2, 3], os := [2, 3] } [] gamOK hT h (by kernel_rfl) trivial ?_
  intro a w h
  refine then_normal ?_
  refine wp_seq ?_
  refine at_regq (T := S_laws_toSendWindow_tab) [] { ts := [2], os := [2] } [] gamOK hT h (by kernel_rfl) trivial ?_
  intro a w h
  refine then_normal ?_
  refine wp_ret ?_
  exact at_return (S := S_laws_toSendWindow) (x := (x0, ())) (x0, ()) [] h (by kernel_rfl) trivial (congrArg (fun z => (z, ())) (show (x0) = (idD s58) x0 from by rfl))

def S_laws_toSource : Sum := { fid := 37, dom := [s64], cod := [s73], dp := true, fz := false, pre := fun x => (pTo s64) x.1, g := fun x => (((idD s64) x.1), ()) }
def S_laws_toSource_tab : List (Nat × Sum) := [(92, S_laws_toGenerationS), (107, S_laws_toSendWindow), (108, S_laws_toRecoderS), (109, S_laws_toFeedbackTable)]
theorem S_laws_toSource_ok : FnOK Try.prog 37 S_laws_toSource := by
  refine at_enter 24 (fun x => ⟨[(0, aG [.ro s82 x.1.1, cI x.1.2.1.1, cI x.1.2.1.2.1, cI x.1.2.1.2.2.1, cI x.1.2.1.2.2.2, .ro s116 x.1.2.2.1, .ro s232 x.1.2.2.2.1, cI x.1.2.2.2.2])], []⟩) Try.func37 rfl (by kernel_rfl) (fun x => rfl) ?_
  rintro w0 Z0 ⟨x0, u⟩ a w
  revert x0
  intro (x0 : T64) hpre hlens h
  replace h : At w0 Z0 [] 24 ⟨[(0, aG [.ro s82 x0.1, cI x0.2.1.1, cI x0.2.1.2.1, cI x0.2.1.2.2.1, cI x0.2.1.2.2.2, .ro s116 x0.2.2.1, .ro s232 x0.2.2.2.1, cI x0.2.2.2.2])], []⟩ a w := h
  replace hpre : (pTo s64) x0 := hpre
  have hl1 : List.length x0.1 ≤ 9223372036854775807 := hlens.1.1.1
  have hl2 : List.length x0.2.2.1 ≤ 9223372036854775807 := hlens.1.2.2.1.1
  have hl3 : List.length x0.2.2.2.1 ≤ 9223372036854775807 := hlens.1.2.2.2.1.1
  have hT : TabOK Try.prog S_laws_toSource_tab := (.cons S_laws_toGenerationS_ok (.cons S_laws_toSendWindow_ok (.cons S_laws_toRecoderS_ok (.cons S_laws_toFeedbackTable_ok .nil))))
  have hp : Sh.sz s64 x0 ≤ 1048576 := hpre
  have hsz : Sh.sz s64 x0 = ((Sh.sz s24 x0.1) + (0 + ((Sh.sz s59 x0.2.2.1) + ((Sh.sz s62 x0.2.2.2.1) + 0)))) := rfl
  refine wp_seq ?_
  refine at_regq (T := S_laws_toSource_tab) [{ ids := [1] }, { ids := [2] }] { ts := [1, 2], os := [1, 2] } [] gamOK hT h (by kernel_rfl) trivial ?_
  intro a w h
  refine then_normal ?_
  refine wp_seq ?_
  refine at_regq (T := S_laws_toSource_tab) [{ ids := [3] }] { ts := [1, 2, 3], os := [1, 2, 3] } [] gamOK hT h (by kernel_rfl) trivial ?_
  intro a w h
  refine then_normal ?_
  refine wp_seq ?_
  refine at_regq (T := S_laws_toSource_tab) [{}, {}, { ids := [4] }] { ts := [1, 2, 3], os := [1, 2, 3, 4] } [(pTo s24) x0.1] gamOK hT h (by kernel_rfl) ⟨(by (show Sh.sz _ _ ≤ 1048576; first | omega | (show (0 : Nat) ≤ 1048576; decide))), trivial⟩ ?_
  intro a w h
  refine then_normal ?_
  refine wp_seq ?_
  refine at_reg (T := S_laws_toSource_tab) [] { ts := [1, 2, 3], os := [1, 2, 3, 4] } ⟨[(1, aP 1 0), (2, aP 2 0), (3, aP 3 0)], [(1, oX 64 [.ro s82 x0.1, cI x0.2.1.1, cI x0.2.1.2.1, cI x0.2.1.2.2.1, cI x0.2.1.2.2.2, .ro s116 x0.2.2.1, .ro s232 x0.2.2.2.1, cI x0.2.2.2.2]), (2, oX 73 [cN, cI 0, cI 0, cI 0, cI 0, cN, cN, cI 0]), (3, oX 73 [.sl 4, cI x0.2.1.1, cI x0.2.1.2.1, cI x0.2.1.2.2.1, cI x0.2.1.2.2.2, cN, cN, cI 0]), (4, oR s86 x0.1)]⟩ [(pTo s58) x0.2.1] gamOK hT h (by kernel_rfl) ⟨(by (show Sh.sz _ _ ≤ 1048576; first | omega | (show (0 : Nat) ≤ 1048576; decide))), trivial⟩ ?_
  intro a w h
  refine then_normal ?_
  refine wp_seq ?_
  refine at_regq (T := S_laws_toSource_tab) [{}, {}, { ids := [5] }] { ts := [1, 2, 3], os := [1, 2, 3, 4, 5] } [(pTo s59) x0.2.2.1] gamOK hT h (by kernel_rfl) ⟨(by (show Sh.sz _ _ ≤ 1048576; first | omega | (show (0 : Nat) ≤ 1048576; decide))), trivial⟩ ?_
  intro a w h
  refine then_normal ?_
  refine wp_seq ?_
  refine at_regq (T := S_laws_toSource_tab) [{}, {}, { ids := [6] }] { ts := [1, 2, 3], os := [1, 2, 3, 4, 5, 6] } [(pTo s62) x0.2.2.2.1] gamOK hT h (by kernel_rfl) ⟨(by (show Sh.sz _ _ ≤ 1048576; first | omega | (show (0 : Nat) ≤ 1048576; decide))), trivial⟩ ?_
  intro a w h
  refine then_normal ?_
  refine wp_seq ?_
  refine at_regq (T := S_laws_toSource_tab) [] { ts := [2, 3], os := [2, 3, 4, 5, 6] } [] gamOK hT h (by kernel_rfl) trivial ?_
  intro a w h
  refine then_normal ?_
  refine wp_seq ?_
  refine at_reg (T := S_laws_toSource_tab) [] { ts := [2], os := [2, 4, 5, 6] } ⟨[(2, aP 2 0)], [(2, oX 73 [.sl 4, cI x0.2.1.1, cI x0.2.1.2.1, cI x0.2.1.2.2.1, cI x0.2.1.2.2.2, .sl 5, .sl 6, cI x0.2.2.2.2]), (4, oR s86 x0.1), (5, oR s122 x0.2.2.1), (6, oR s212 x0.2.2.2.1)]⟩ [] gamOK hT h (by kernel_rfl) trivial ?_
  intro a w h
  refine then_normal ?_
  refine wp_ret ?_
  exact at_return (S := S_laws_toSource) (x := (x0, ())) (x0, ()) [] h (by kernel_rfl) trivial (congrArg (fun z => (z, ())) (show (x0) = (idD s64) x0 from by rfl))

section
variable {α β : Type}
theorem ctL_filter (c : α → Nat) (p : α → Bool) : ∀ xs : List α, ctL c (xs.filter p) ≤ ctL c xs
  | [] => Nat.le_refl _
  | x :: l => by
    have := ctL_filter c p l
    rw [List.filter_cons]
    split <;> simp only [ctL] <;> omega
theorem eqF_eqL {e : α → α → Bool} : ∀ {xs ys : List α}, eqF e xs ys = eqL e xs ys
  | [], [] => rfl
  | [], _ :: _ => rfl
  | _ :: _, [] => rfl
  | _ :: l, _ :: l' => by simp only [eqF, eqL, eqF_eqL (xs := l)]
/-- the indices of those that are wanted -/
def idxsTo (p : α → Bool) (z : α) (xs : List α) : Nat → List Int
  | 0 => []
  | i + 1 => bif p (xs.getD i z) then idxsTo p z xs i ++ [(i : Int)] else idxsTo p z xs i
theorem idxsTo_len {p : α → Bool} {z : α} {xs : List α} : ∀ {i : Nat}, (idxsTo p z xs i).length ≤ i
  | 0 => Nat.le_refl _
  | i + 1 => by
    have := idxsTo_len (p := p) (z := z) (xs := xs) (i := i)
    simp only [idxsTo]
    cases p (xs.getD i z) <;> simp <;> omega
theorem idxsTo_mem {p : α → Bool} {z : α} {xs : List α} {j : Nat} : ∀ {i : Nat}, ((j : Int) ∈ idxsTo p z xs i) ↔ (j < i ∧ p (xs.getD j z) = true)
  | 0 => by simp [idxsTo]
  | i + 1 => by
    have ih := idxsTo_mem (p := p) (z := z) (xs := xs) (j := j) (i := i)
    simp only [idxsTo]
    cases hp : p (xs.getD i z) with
    | true =>
      rw [cond_true, List.mem_append, ih, List.mem_singleton]
      constructor
      · rintro (h | h)
        · exact ⟨by omega, h.2⟩
        · have : j = i := by omega
          subst this; exact ⟨by omega, hp⟩
      · rintro ⟨h1, h2⟩
        by_cases e : j = i
        · right; rw [e]
        · left; exact ⟨by omega, h2⟩
    | false =>
      rw [cond_false, ih]
      constructor
      · rintro ⟨h1, h2⟩; exact ⟨by omega, h2⟩
      · rintro ⟨h1, h2⟩
        refine ⟨?_, h2⟩
        by_cases e : j = i
        · subst e; rw [hp] at h2; cases h2
        · omega
/-- those whose index is not among ed -/
def remTo (z : α) (xs : List α) (ed : List Int) : Nat → List α
  | 0 => []
  | i + 1 => bif ed.any (fun e => decide ((i : Int) = e)) then remTo z xs ed i else remTo z xs ed i ++ [xs.getD i z]
theorem remTo_len {z : α} {xs : List α} {ed : List Int} : ∀ {i : Nat}, (remTo z xs ed i).length ≤ i
  | 0 => Nat.le_refl _
  | i + 1 => by
    have := remTo_len (z := z) (xs := xs) (ed := ed) (i := i)
    simp only [remTo]
    cases ed.any (fun e => decide ((i : Int) = e)) <;> simp <;> omega
theorem remTo_idxs {p : α → Bool} {z : α} {xs : List α} : ∀ {i n : Nat}, i ≤ n → n ≤ xs.length → remTo z xs (idxsTo p z xs n) i = (xs.take i).filter (fun e => !p e)
  | 0, _, _, _ => by simp [remTo]
  | i + 1, n, h, hn => by
    have ih := remTo_idxs (p := p) (z := z) (xs := xs) (i := i) (n := n) (by omega) hn
    have hm : (idxsTo p z xs n).any (fun e => decide ((i : Int) = e)) = p (xs.getD i z) := by
      rw [Bool.eq_iff_iff, List.any_eq_true]
      constructor
      · rintro ⟨x, hx, he⟩
        have he := of_decide_eq_true he
        rw [← he] at hx
        exact (idxsTo_mem.1 hx).2
      · intro hp
        exact ⟨(i : Int), idxsTo_mem.2 ⟨by omega, hp⟩, by simp⟩
    simp only [remTo, hm, ih]
    cases hp : p (xs.getD i z) with
    | true => rw [cond_true, filter_snoc_f (z := z) (by omega) (by simp only [hp]; rfl)]
    | false => rw [cond_false, filter_snoc_t (z := z) (by omega) (by simp only [hp]; rfl)]
end
def S_spec_EqualInts : Sum := { fid := 88, dom := [s22, s22], cod := [(.bool 4)], dp := true, fz := false, pre := fun x => True, g := fun x => (((Sh.eqB s22) x.1 x.2.1), ()) }
def S_spec_EqualInts_tab : List (Nat × Sum) := []
theorem S_spec_EqualInts_ok : FnOK Try.prog 88 S_spec_EqualInts := by
  refine at_enter 26 (fun x => ⟨[(0, aF (.int 3) x.1), (1, aF (.int 3) x.2.1)], []⟩) Try.func88 rfl (by kernel_rfl) (fun x => rfl) ?_
  rintro w0 Z0 ⟨x0, x1, u⟩ a w
  revert x0 x1
  intro (x0 : (List Int)) (x1 : (List Int)) hpre hlens h
  replace h : At w0 Z0 [] 26 ⟨[(0, aF (.int 3) x0), (1, aF (.int 3) x1)], []⟩ a w := h
  have hl1 : List.length x0 ≤ 9223372036854775807 := hlens.1.1
  have hl2 : List.length x1 ≤ 9223372036854775807 := hlens.2.1.1
  have hT : TabOK Try.prog S_spec_EqualInts_tab := .nil
  refine wp_seq ?_
  refine at_regq (T := S_spec_EqualInts_tab) [] { ts := [0, 1, 4], os := [] } [] gamOK hT h (by kernel_rfl) trivial ?_
  intro a w h
  refine then_normal ?_
  refine wp_seq ?_
  refine wp_seq ?_
  refine at_regq (T := S_spec_EqualInts_tab) [] { ts := [0, 1, 4, 10], os := [] } [] gamOK hT h (by kernel_rfl) trivial ?_
  intro a w h
  refine then_normal ?_
  refine at_test (!decide (((List.length x0 : Nat) : Int) = ((List.length x1 : Nat) : Int))) h (by kernel_rfl) (fun h1 => ?_) (fun h1 => ?_)
  · replace h1 : ¬ (((List.length x0 : Nat) : Int) = ((List.length x1 : Nat) : Int)) := of_decide_eq_false (notT h1)
    refine wp_seq ?_
    refine at_regq (T := S_spec_EqualInts_tab) [] { ts := [0, 1, 4], os := [] } [] gamOK hT h (by kernel_rfl) trivial ?_
    intro a w h
    refine then_normal ?_
    refine wp_ret ?_
    refine then_ret ?_
    exact at_return (S := S_spec_EqualInts) (x := (x0, x1, ())) (false, ()) [] h (by kernel_rfl) trivial (congrArg (fun z => (z, ())) (show (false) = (Sh.eqB s22) x0 x1 from by exact (Sh.eqB_ne (fun e => h1 (by rw [e]))).symm))
  · replace h1 : ((List.length x0 : Nat) : Int) = ((List.length x1 : Nat) : Int) := of_decide_eq_true (notF h1)
    refine wp_skip ?_
    refine then_normal ?_
    refine wp_seq ?_
    refine wp_seq ?_
    refine at_regq (T := S_spec_EqualInts_tab) [] { ts := [0, 1, 4, 5], os := [] } [] gamOK hT h (by kernel_rfl) trivial ?_
    intro a w h
    refine then_normal ?_
    refine wp_block ?_
    replace h := at_out (σ' := ⟨[(0, aF (.int 3) x0), (1, aF (.int 3) x1), (4, aB false), (5, aI 0)], []⟩) { ts := [0, 1, 4, 5], os := [] } h (by kernel_rfl)
    refine at_loop (fun i : Nat => (⟨[(0, aF (.int 3) x0), (1, aF (.int 3) x1), (4, aB false), (5, aI ((i : Nat) : Int))], []⟩ : St)) (fun i => (i ≤ List.length x0 ∧ x0.take i = x1.take i)) (fun i => List.length x0 - i) (0) h (st_congr1 (fun (d0 : Int) => (⟨[(0, aF (.int 3) x0), (1, aF (.int 3) x1), (4, aB false), (5, aI d0)], []⟩ : St)) (show (0 : Int) = (((0) : Nat) : Int) from by first | with_reducible rfl | (rfl) | rfl)) (by exact ⟨Nat.zero_le _, rfl⟩) ?_
    intro i a w hok0 h
    refine wp_seq ?_
    refine wp_seq ?_
    refine at_reg (T := S_spec_EqualInts_tab) [] { ts := [0, 1, 4, 5, 14], os := [] } ⟨[(0, aF (.int 3) x0), (1, aF (.int 3) x1), (4, aB false), (5, aI ((i : Nat) : Int)), (14, aB (decide (((i : Nat) : Int) < ((List.length x0 : Nat) : Int))))], []⟩ [] gamOK hT h (by kernel_rfl) trivial ?_
    intro a w h
    refine then_normal ?_
    refine at_test (decide (((i : Nat) : Int) < ((List.length x0 : Nat) : Int))) h (by kernel_rfl) (fun h2 => ?_) (fun h2 => ?_)
    · replace h2 : ((i : Nat) : Int) < ((List.length x0 : Nat) : Int) := of_decide_eq_true h2
      refine wp_skip ?_
      refine then_normal ?_
      refine wp_seq ?_
      refine wp_block ?_
      refine wp_seq ?_
      refine at_anyq (T := S_spec_EqualInts_tab) [{}, {}, {}, {}, {}, {}, {}, {}, {}] { ts := [0, 1, 4, 5, 25], os := [] } [(0 : Int) ≤ ((i : Nat) : Int) ∧ ((i : Nat) : Int) < ((List.length x0 : Nat) : Int), (0 : Int) ≤ ((i : Nat) : Int) ∧ ((i : Nat) : Int) < ((List.length x1 : Nat) : Int)] gamOK hT mixed h (by kernel_rfl) ⟨(by refine ⟨?_, ?_⟩ <;> (first | omega | (simp only [List.length_append, List.length_cons, List.length_nil, List.length_set, List.length_take, List.length_drop, List.length_replicate, List.length_map, Nat.min_def]; omega) | (simp; done) | (simp; omega) | done)), (by refine ⟨?_, ?_⟩ <;> (first | omega | (simp only [List.length_append, List.length_cons, List.length_nil, List.length_set, List.length_take, List.length_drop, List.length_replicate, List.length_map, Nat.min_def]; omega) | (simp; done) | (simp; omega) | done)), trivial⟩ ?_
      intro a w h
      refine then_normal ?_
      refine at_test (!decide ((x0.getD i 0) = (x1.getD i 0))) h (by kernel_rfl) (fun h3 => ?_) (fun h3 => ?_)
      · replace h3 : ¬ ((x0.getD i 0) = (x1.getD i 0)) := of_decide_eq_false (notT h3)
        refine wp_seq ?_
        refine at_regq (T := S_spec_EqualInts_tab) [] { ts := [0, 1, 4, 5], os := [] } [] gamOK hT h (by kernel_rfl) trivial ?_
        intro a w h
        refine then_normal ?_
        refine wp_ret ?_
        refine in_ret ?_
        refine then_ret ?_
        refine then_ret ?_
        refine in_ret ?_
        refine then_ret ?_
        exact at_return (S := S_spec_EqualInts) (x := (x0, x1, ())) (false, ()) [] h (by kernel_rfl) trivial (congrArg (fun z => (z, ())) (show (false) = (Sh.eqB s22) x0 x1 from by exact (Sh.eqB_ne (s := s22) (fun e => h3 (by rw [e]))).symm))
      · replace h3 : (x0.getD i 0) = (x1.getD i 0) := of_decide_eq_true (notF h3)
        refine wp_skip ?_
        refine in_normal ?_
        refine then_normal ?_
        refine at_regq (T := S_spec_EqualInts_tab) [{}, { nw := true }] { ts := [0, 1, 4, 5], os := [] } [I64 (((i : Nat) : Int) + 1)] gamOK hT h (by kernel_rfl) ⟨⟨by first | omega | (simp only [List.length_append, List.length_cons, List.length_nil, List.length_set, List.length_take, List.length_drop, List.length_replicate, List.length_map, Nat.min_def]; omega) | (simp; done) | (simp; omega) | done, by first | omega | (simp only [List.length_append, List.length_cons, List.length_nil, List.length_set, List.length_take, List.length_drop, List.length_replicate, List.length_map, Nat.min_def]; omega) | (simp; done) | (simp; omega) | done⟩, trivial⟩ ?_
        intro a w h
        replace h := at_out (σ' := ⟨[(0, aF (.int 3) x0), (1, aF (.int 3) x1), (4, aB false), (5, aI (((i : Nat) : Int) + 1))], []⟩) { ts := [0, 1, 4, 5], os := [] } h (by kernel_rfl)
        exact ⟨i + 1, at_eq h (st_congr1 (fun (d0 : Int) => (⟨[(0, aF (.int 3) x0), (1, aF (.int 3) x1), (4, aB false), (5, aI d0)], []⟩ : St)) (show (((i : Nat) : Int) + 1 : Int) = (((i + 1) : Nat) : Int) from by first | with_reducible rfl | (omega) | rfl)), (by exact ⟨by omega, eqTo_step (z := 0) (by omega) (by omega) hok0.2 h3⟩), (by omega)⟩
    · replace h2 : ¬ (((i : Nat) : Int) < ((List.length x0 : Nat) : Int)) := of_decide_eq_false h2
      refine wp_exit ?_
      refine then_exit ?_
      refine then_exit ?_
      refine in_hit ?_
      refine then_normal ?_
      refine wp_seq ?_
      refine at_regq (T := S_spec_EqualInts_tab) [] { ts := [4], os := [] } [] gamOK hT h (by kernel_rfl) trivial ?_
      intro a w h
      refine then_normal ?_
      refine wp_ret ?_
      exact at_return (S := S_spec_EqualInts) (x := (x0, x1, ())) (true, ()) [] h (by kernel_rfl) trivial (congrArg (fun z => (z, ())) (show (true) = (Sh.eqB s22) x0 x1 from by (have e := hok0.2; rw [take_all (by omega), take_all (by omega)] at e; exact ((Sh.eqB_iff s22).2 e).symm)))

def S_impl_EqualPackets : Sum := { fid := 203, dom := [s126, s126], cod := [(.bool 4)], dp := true, fz := false, pre := fun x => True, g := fun x => (((Sh.eqB s126) x.1 x.2.1), ()) }
def S_impl_EqualPackets_tab : List (Nat × Sum) := [(93, S_slices_Equal_S_int_int_)]
theorem S_impl_EqualPackets_ok : FnOK Try.prog 203 S_impl_EqualPackets := by
  refine at_enter 24 (fun x => ⟨[(0, aG [cI x.1.1, .ro (.int 3) x.1.2.1, .ro (.int 3) x.1.2.2]), (1, aG [cI x.2.1.1, .ro (.int 3) x.2.1.2.1, .ro (.int 3) x.2.1.2.2])], []⟩) Try.func203 rfl (by kernel_rfl) (fun x => rfl) ?_
  rintro w0 Z0 ⟨x0, x1, u⟩ a w
  revert x0 x1
  intro (x0 : T126) (x1 : T126) hpre hlens h
  replace h : At w0 Z0 [] 24 ⟨[(0, aG [cI x0.1, .ro (.int 3) x0.2.1, .ro (.int 3) x0.2.2]), (1, aG [cI x1.1, .ro (.int 3) x1.2.1, .ro (.int 3) x1.2.2])], []⟩ a w := h
  have hl1 : List.length x0.2.1 ≤ 9223372036854775807 := hlens.1.2.1.1
  have hl2 : List.length x0.2.2 ≤ 9223372036854775807 := hlens.1.2.2.1
  have hl3 : List.length x1.2.1 ≤ 9223372036854775807 := hlens.2.1.2.1.1
  have hl4 : List.length x1.2.2 ≤ 9223372036854775807 := hlens.2.1.2.2.1
  have hT : TabOK Try.prog S_impl_EqualPackets_tab := (.cons S_slices_Equal_S_int_int__ok .nil)
  refine wp_seq ?_
  refine at_regq (T := S_impl_EqualPackets_tab) [{ ids := [1] }, { ids := [2] }] { ts := [2, 3, 4], os := [1, 2] } [] gamOK hT h (by kernel_rfl) trivial ?_
  intro a w h
  refine then_normal ?_
  refine wp_seq ?_
  by_cases h1 : x0.1 = x1.1
  · skip
    rcases Bool.eq_false_or_eq_true (((Sh.eqB s22) x0.2.1 x1.2.1)) with h2 | h2
    · skip
      refine at_regq (T := S_impl_EqualPackets_tab) [{}, {}, {}, {}, { hint := some (aB true) }, {}, {}, {}, {}, {}, { hint := some (aB true) }] { ts := [4], os := [] } [(AV.p (.c (.v (.bool (decide (x0.1 = x1.1))))) = AV.p (.c (.v (.bool true)))), True, (AV.p (.c (.v (.bool (((Sh.eqB s22) x0.2.1 x1.2.1))))) = AV.p (.c (.v (.bool true)))), True] gamOK hT h (by kernel_rfl) ⟨hint_bool (decide_eq_true h1), trivial, hint_bool (h2), trivial, trivial⟩ ?_
      intro a w h
      refine then_normal ?_
      refine wp_ret ?_
      exact at_return (S := S_impl_EqualPackets) (x := (x0, x1, ())) (((Sh.eqB s22) x0.2.2 x1.2.2), ()) [] h (by kernel_rfl) trivial (congrArg (fun z => (z, ())) (show (((Sh.eqB s22) x0.2.2 x1.2.2)) = (Sh.eqB s126) x0 x1 from by (show _ = Sh.eqB s126 x0 x1; simp_all [Sh.eqB])))
    · skip
      refine at_regq (T := S_impl_EqualPackets_tab) [{}, {}, {}, {}, { hint := some (aB true) }, {}, {}, {}, {}, {}, { hint := some (aB false) }] { ts := [4], os := [] } [(AV.p (.c (.v (.bool (decide (x0.1 = x1.1))))) = AV.p (.c (.v (.bool true)))), True, (AV.p (.c (.v (.bool (((Sh.eqB s22) x0.2.1 x1.2.1))))) = AV.p (.c (.v (.bool false))))] gamOK hT h (by kernel_rfl) ⟨hint_bool (decide_eq_true h1), trivial, hint_bool (h2), trivial⟩ ?_
      intro a w h
      refine then_normal ?_
      refine wp_ret ?_
      exact at_return (S := S_impl_EqualPackets) (x := (x0, x1, ())) (false, ()) [] h (by kernel_rfl) trivial (congrArg (fun z => (z, ())) (show (false) = (Sh.eqB s126) x0 x1 from by (show _ = Sh.eqB s126 x0 x1; simp_all [Sh.eqB])))
  · skip
    refine at_regq (T := S_impl_EqualPackets_tab) [{}, {}, {}, {}, { hint := some (aB false) }] { ts := [4], os := [] } [(AV.p (.c (.v (.bool (decide (x0.1 = x1.1))))) = AV.p (.c (.v (.bool false))))] gamOK hT h (by kernel_rfl) ⟨hint_bool (decide_eq_false h1), trivial⟩ ?_
    intro a w h
    refine then_normal ?_
    refine wp_ret ?_
    exact at_return (S := S_impl_EqualPackets) (x := (x0, x1, ())) (false, ()) [] h (by kernel_rfl) trivial (congrArg (fun z => (z, ())) (show (false) = (Sh.eqB s126) x0 x1 from by (show _ = Sh.eqB s126 x0 x1; simp_all [Sh.eqB])))

def S_spec_EqualPackets : Sum := { fid := 200, dom := [s126, s126], cod := [(.bool 4)], dp := true, fz := false, pre := fun x => True, g := fun x => (((Sh.eqB s126) x.1 x.2.1), ()) }
def S_spec_EqualPackets_tab : List (Nat × Sum) := [(88, S_spec_EqualInts)]
theorem S_spec_EqualPackets_ok : FnOK Try.prog 200 S_spec_EqualPackets := by
  refine at_enter 24 (fun x => ⟨[(0, aG [cI x.1.1, .ro (.int 3) x.1.2.1, .ro (.int 3) x.1.2.2]), (1, aG [cI x.2.1.1, .ro (.int 3) x.2.1.2.1, .ro (.int 3) x.2.1.2.2])], []⟩) Try.func200 rfl (by kernel_rfl) (fun x => rfl) ?_
  rintro w0 Z0 ⟨x0, x1, u⟩ a w
  revert x0 x1
  intro (x0 : T126) (x1 : T126) hpre hlens h
  replace h : At w0 Z0 [] 24 ⟨[(0, aG [cI x0.1, .ro (.int 3) x0.2.1, .ro (.int 3) x0.2.2]), (1, aG [cI x1.1, .ro (.int 3) x1.2.1, .ro (.int 3) x1.2.2])], []⟩ a w := h
  have hl1 : List.length x0.2.1 ≤ 9223372036854775807 := hlens.1.2.1.1
  have hl2 : List.length x0.2.2 ≤ 9223372036854775807 := hlens.1.2.2.1
  have hl3 : List.length x1.2.1 ≤ 9223372036854775807 := hlens.2.1.2.1.1
  have hl4 : List.length x1.2.2 ≤ 9223372036854775807 := hlens.2.1.2.2.1
  have hT : TabOK Try.prog S_spec_EqualPackets_tab := (.cons S_spec_EqualInts_ok .nil)
  refine wp_seq ?_
  refine at_regq (T := S_spec_EqualPackets_tab) [{ ids := [1] }, { ids := [2] }] { ts := [2, 3, 4], os := [1, 2] } [] gamOK hT h (by kernel_rfl) trivial ?_
  intro a w h
  refine then_normal ?_
  refine wp_seq ?_
  by_cases h1 : x0.1 = x1.1
  · skip
    rcases Bool.eq_false_or_eq_true (((Sh.eqB s22) x0.2.1 x1.2.1)) with h2 | h2
    · skip
      refine at_regq (T := S_spec_EqualPackets_tab) [{}, {}, {}, {}, { hint := some (aB true) }, {}, {}, {}, {}, {}, { hint := some (aB true) }] { ts := [4], os := [] } [(AV.p (.c (.v (.bool (decide (x0.1 = x1.1))))) = AV.p (.c (.v (.bool true)))), True, (AV.p (.c (.v (.bool (((Sh.eqB s22) x0.2.1 x1.2.1))))) = AV.p (.c (.v (.bool true)))), True] gamOK hT h (by kernel_rfl) ⟨hint_bool (decide_eq_true h1), trivial, hint_bool (h2), trivial, trivial⟩ ?_
      intro a w h
      refine then_normal ?_
      refine wp_ret ?_
      exact at_return (S := S_spec_EqualPackets) (x := (x0, x1, ())) (((Sh.eqB s22) x0.2.2 x1.2.2), ()) [] h (by kernel_rfl) trivial (congrArg (fun z => (z, ())) (show (((Sh.eqB s22) x0.2.2 x1.2.2)) = (Sh.eqB s126) x0 x1 from by (show _ = Sh.eqB s126 x0 x1; simp_all [Sh.eqB])))
    · skip
      refine at_regq (T := S_spec_EqualPackets_tab) [{}, {}, {}, {}, { hint := some (aB true) }, {}, {}, {}, {}, {}, { hint := some (aB false) }] { ts := [4], os := [] } [(AV.p (.c (.v (.bool (decide (x0.1 = x1.1))))) = AV.p (.c (.v (.bool true)))), True, (AV.p (.c (.v (.bool (((Sh.eqB s22) x0.2.1 x1.2.1))))) = AV.p (.c (.v (.bool false))))] gamOK hT h (by kernel_rfl) ⟨hint_bool (decide_eq_true h1), trivial, hint_bool (h2), trivial⟩ ?_
      intro a w h
      refine then_normal ?_
      refine wp_ret ?_
      exact at_return (S := S_spec_EqualPackets) (x := (x0, x1, ())) (false, ()) [] h (by kernel_rfl) trivial (congrArg (fun z => (z, ())) (show (false) = (Sh.eqB s126) x0 x1 from by (show _ = Sh.eqB s126 x0 x1; simp_all [Sh.eqB])))
  · skip
    refine at_regq (T := S_spec_EqualPackets_tab) [{}, {}, {}, {}, { hint := some (aB false) }] { ts := [4], os := [] } [(AV.p (.c (.v (.bool (decide (x0.1 = x1.1))))) = AV.p (.c (.v (.bool false))))] gamOK hT h (by kernel_rfl) ⟨hint_bool (decide_eq_false h1), trivial⟩ ?_
    intro a w h
    refine then_normal ?_
    refine wp_ret ?_
    exact at_return (S := S_spec_EqualPackets) (x := (x0, x1, ())) (false, ()) [] h (by kernel_rfl) trivial (congrArg (fun z => (z, ())) (show (false) = (Sh.eqB s126) x0 x1 from by (show _ = Sh.eqB s126 x0 x1; simp_all [Sh.eqB])))

def D_slices_EqualFunc_S_impl_CodedPacket_S_impl_CodedPacket_impl_CodedPacket_impl_CodedPacket__EqualPackets := (fun (xs ys : List T126) (_ : Unit) => eqF (Sh.eqB s126) xs ys)
def S_slices_EqualFunc_S_impl_CodedPacket_S_impl_CodedPacket_impl_CodedPacket_impl_CodedPacket__EqualPackets : Sum := { fid := 202, dom := [s43, s43, (.fn0 203)], cod := [(.bool 4)], dp := true, fz := false, pre := fun x => True, g := fun x => ((D_slices_EqualFunc_S_impl_CodedPacket_S_impl_CodedPacket_impl_CodedPacket_impl_CodedPacket__EqualPackets x.1 x.2.1 x.2.2.1), ()) }
def S_slices_EqualFunc_S_impl_CodedPacket_S_impl_CodedPacket_impl_CodedPacket_impl_CodedPacket__EqualPackets_tab : List (Nat × Sum) := [(203, S_impl_EqualPackets)]
theorem S_slices_EqualFunc_S_impl_CodedPacket_S_impl_CodedPacket_impl_CodedPacket_impl_CodedPacket__EqualPackets_ok : FnOK Try.prog 202 S_slices_EqualFunc_S_impl_CodedPacket_S_impl_CodedPacket_impl_CodedPacket_impl_CodedPacket__EqualPackets := by
  refine at_enter 32 (fun x => ⟨[(0, aF s126 x.1), (1, aF s126 x.2.1), (2, .p (.c (.cl 203 .cnil)))], []⟩) Try.func202 rfl (by kernel_rfl) (fun x => rfl) ?_
  rintro w0 Z0 ⟨x0, x1, x2, u⟩ a w
  revert x0 x1 x2
  intro (x0 : (List T126)) (x1 : (List T126)) (x2 : Unit) hpre hlens h
  replace h : At w0 Z0 [] 32 ⟨[(0, aF s126 x0), (1, aF s126 x1), (2, .p (.c (.cl 203 .cnil)))], []⟩ a w := h
  have hl1 : List.length x0 ≤ 9223372036854775807 := hlens.1.1
  have hl2 : List.length x1 ≤ 9223372036854775807 := hlens.2.1.1
  have hT : TabOK Try.prog S_slices_EqualFunc_S_impl_CodedPacket_S_impl_CodedPacket_impl_CodedPacket_impl_CodedPacket__EqualPackets_tab := (.cons S_impl_EqualPackets_ok .nil)
  refine wp_seq ?_
  refine at_regq (T := S_slices_EqualFunc_S_impl_CodedPacket_S_impl_CodedPacket_impl_CodedPacket_impl_CodedPacket__EqualPackets_tab) [] { ts := [0, 1, 2, 6], os := [] } [] gamOK hT h (by kernel_rfl) trivial ?_
  intro a w h
  refine then_normal ?_
  refine wp_seq ?_
  refine wp_seq ?_
  refine at_regq (T := S_slices_EqualFunc_S_impl_CodedPacket_S_impl_CodedPacket_impl_CodedPacket_impl_CodedPacket__EqualPackets_tab) [] { ts := [0, 1, 2, 6, 14], os := [] } [] gamOK hT h (by kernel_rfl) trivial ?_
  intro a w h
  refine then_normal ?_
  refine at_test (!decide (((List.length x0 : Nat) : Int) = ((List.length x1 : Nat) : Int))) h (by kernel_rfl) (fun h1 => ?_) (fun h1 => ?_)
  · replace h1 : ¬ (((List.length x0 : Nat) : Int) = ((List.length x1 : Nat) : Int)) := of_decide_eq_false (notT h1)
    refine wp_seq ?_
    refine at_regq (T := S_slices_EqualFunc_S_impl_CodedPacket_S_impl_CodedPacket_impl_CodedPacket_impl_CodedPacket__EqualPackets_tab) [] { ts := [0, 1, 2, 6], os := [] } [] gamOK hT h (by kernel_rfl) trivial ?_
    intro a w h
    refine then_normal ?_
    refine wp_ret ?_
    refine then_ret ?_
    exact at_return (S := S_slices_EqualFunc_S_impl_CodedPacket_S_impl_CodedPacket_impl_CodedPacket_impl_CodedPacket__EqualPackets) (x := (x0, x1, x2, ())) (false, ()) [] h (by kernel_rfl) trivial (congrArg (fun z => (z, ())) (show (false) = D_slices_EqualFunc_S_impl_CodedPacket_S_impl_CodedPacket_impl_CodedPacket_impl_CodedPacket__EqualPackets x0 x1 x2 from by unfold D_slices_EqualFunc_S_impl_CodedPacket_S_impl_CodedPacket_impl_CodedPacket_impl_CodedPacket__EqualPackets; exact (eqF_len (fun e => h1 (by rw [e]))).symm))
  · replace h1 : ((List.length x0 : Nat) : Int) = ((List.length x1 : Nat) : Int) := of_decide_eq_true (notF h1)
    refine wp_skip ?_
    refine then_normal ?_
    refine wp_seq ?_
    refine wp_seq ?_
    refine at_regq (T := S_slices_EqualFunc_S_impl_CodedPacket_S_impl_CodedPacket_impl_CodedPacket_impl_CodedPacket__EqualPackets_tab) [] { ts := [1, 2, 6, 15, 16, 17], os := [] } [] gamOK hT h (by kernel_rfl) trivial ?_
    intro a w h
    refine then_normal ?_
    refine wp_block ?_
    replace h := at_out (σ' := ⟨[(1, aF s126 x1), (2, .p (.c (.cl 203 .cnil))), (6, aB false), (15, aF s126 x0), (16, aI ((List.length x0 : Nat) : Int)), (17, aI 0)], []⟩) { ts := [1, 2, 6, 15, 16, 17], os := [] } h (by kernel_rfl)
    refine at_loop (fun i : Nat => (⟨[(1, aF s126 x1), (2, .p (.c (.cl 203 .cnil))), (6, aB false), (15, aF s126 x0), (16, aI ((List.length x0 : Nat) : Int)), (17, aI ((i : Nat) : Int))], []⟩ : St)) (fun i => (i ≤ List.length x0 ∧ allTo2 (Sh.eqB s126) x0 x1 (0, ([], [])) (0, ([], [])) i)) (fun i => List.length x0 - i) (0) h (st_congr1 (fun (d0 : Int) => (⟨[(1, aF s126 x1), (2, .p (.c (.cl 203 .cnil))), (6, aB false), (15, aF s126 x0), (16, aI ((List.length x0 : Nat) : Int)), (17, aI d0)], []⟩ : St)) (show (0 : Int) = (((0) : Nat) : Int) from by first | with_reducible rfl | (rfl) | rfl)) (by exact ⟨Nat.zero_le _, allTo2_zero⟩) ?_
    intro i a w hok0 h
    refine wp_seq ?_
    refine at_reg (T := S_slices_EqualFunc_S_impl_CodedPacket_S_impl_CodedPacket_impl_CodedPacket_impl_CodedPacket__EqualPackets_tab) [] { ts := [1, 2, 6, 15, 16, 17, 18], os := [] } ⟨[(1, aF s126 x1), (2, .p (.c (.cl 203 .cnil))), (6, aB false), (15, aF s126 x0), (16, aI ((List.length x0 : Nat) : Int)), (17, aI ((i : Nat) : Int)), (18, aB (decide (((i : Nat) : Int) < ((List.length x0 : Nat) : Int))))], []⟩ [] gamOK hT h (by kernel_rfl) trivial ?_
    intro a w h
    refine then_normal ?_
    refine wp_seq ?_
    refine at_test (decide (((i : Nat) : Int) < ((List.length x0 : Nat) : Int))) h (by kernel_rfl) (fun h2 => ?_) (fun h2 => ?_)
    · replace h2 : ((i : Nat) : Int) < ((List.length x0 : Nat) : Int) := of_decide_eq_true h2
      refine wp_skip ?_
      refine then_normal ?_
      refine wp_seq ?_
      refine wp_block ?_
      refine wp_seq ?_
      refine at_regq (T := S_slices_EqualFunc_S_impl_CodedPacket_S_impl_CodedPacket_impl_CodedPacket_impl_CodedPacket__EqualPackets_tab) [{}, {}, {}, { ids := [1] }] { ts := [1, 2, 6, 7, 8, 15, 16, 17], os := [1] } [(0 : Int) ≤ ((i : Nat) : Int) ∧ ((i : Nat) : Int) < ((List.length x0 : Nat) : Int)] gamOK hT h (by kernel_rfl) ⟨(by refine ⟨?_, ?_⟩ <;> (first | omega | (simp only [List.length_append, List.length_cons, List.length_nil, List.length_set, List.length_take, List.length_drop, List.length_replicate, List.length_map, Nat.min_def]; omega) | (simp; done) | (simp; omega) | done)), trivial⟩ ?_
      intro a w h
      refine then_normal ?_
      refine wp_seq ?_
      refine at_regq (T := S_slices_EqualFunc_S_impl_CodedPacket_S_impl_CodedPacket_impl_CodedPacket_impl_CodedPacket__EqualPackets_tab) [{}, {}, {}, {}, { ids := [2] }] { ts := [1, 2, 6, 8, 9, 15, 16, 17], os := [1, 2] } [(0 : Int) ≤ ((i : Nat) : Int) ∧ ((i : Nat) : Int) < ((List.length x1 : Nat) : Int)] gamOK hT h (by kernel_rfl) ⟨(by refine ⟨?_, ?_⟩ <;> (first | omega | (simp only [List.length_append, List.length_cons, List.length_nil, List.length_set, List.length_take, List.length_drop, List.length_replicate, List.length_map, Nat.min_def]; omega) | (simp; done) | (simp; omega) | done)), trivial⟩ ?_
      intro a w h
      refine then_normal ?_
      refine wp_seq ?_
      refine at_regq (T := S_slices_EqualFunc_S_impl_CodedPacket_S_impl_CodedPacket_impl_CodedPacket_impl_CodedPacket__EqualPackets_tab) [] { ts := [1, 2, 6, 15, 16, 17, 30], os := [] } [True] gamOK hT h (by kernel_rfl) ⟨trivial, trivial⟩ ?_
      intro a w h
      refine then_normal ?_
      refine at_test (!((Sh.eqB s126) (x0.getD i (0, ([], []))) (x1.getD i (0, ([], []))))) h (by kernel_rfl) (fun h3 => ?_) (fun h3 => ?_)
      · replace h3 : ((Sh.eqB s126) (x0.getD i (0, ([], []))) (x1.getD i (0, ([], [])))) = false := notT h3
        refine wp_seq ?_
        refine at_reg (T := S_slices_EqualFunc_S_impl_CodedPacket_S_impl_CodedPacket_impl_CodedPacket_impl_CodedPacket__EqualPackets_tab) [] { ts := [1, 2, 6, 15, 16, 17], os := [] } ⟨[(1, aF s126 x1), (2, .p (.c (.cl 203 .cnil))), (6, aB false), (15, aF s126 x0), (16, aI ((List.length x0 : Nat) : Int)), (17, aI ((i : Nat) : Int))], []⟩ [] gamOK hT h (by kernel_rfl) trivial ?_
        intro a w h
        refine then_normal ?_
        refine wp_ret ?_
        refine in_ret ?_
        refine then_ret ?_
        refine then_ret ?_
        refine in_ret ?_
        refine then_ret ?_
        exact at_return (S := S_slices_EqualFunc_S_impl_CodedPacket_S_impl_CodedPacket_impl_CodedPacket_impl_CodedPacket__EqualPackets) (x := (x0, x1, x2, ())) (false, ()) [] h (by kernel_rfl) trivial (congrArg (fun z => (z, ())) (show (false) = D_slices_EqualFunc_S_impl_CodedPacket_S_impl_CodedPacket_impl_CodedPacket_impl_CodedPacket__EqualPackets x0 x1 x2 from by unfold D_slices_EqualFunc_S_impl_CodedPacket_S_impl_CodedPacket_impl_CodedPacket_impl_CodedPacket__EqualPackets; exact (eqF_at (z := (0, ([], []))) (y := (0, ([], []))) (i := i) (by omega) (by omega) h3).symm))
      · replace h3 : ((Sh.eqB s126) (x0.getD i (0, ([], []))) (x1.getD i (0, ([], [])))) = true := notF h3
        refine wp_skip ?_
        refine in_normal ?_
        refine then_normal ?_
        refine at_reg (T := S_slices_EqualFunc_S_impl_CodedPacket_S_impl_CodedPacket_impl_CodedPacket_impl_CodedPacket__EqualPackets_tab) [{ nw := true }] { ts := [1, 2, 6, 15, 16, 17], os := [] } ⟨[(1, aF s126 x1), (2, .p (.c (.cl 203 .cnil))), (6, aB false), (15, aF s126 x0), (16, aI ((List.length x0 : Nat) : Int)), (17, aI (((i : Nat) : Int) + 1))], []⟩ [I64 (((i : Nat) : Int) + 1)] gamOK hT h (by kernel_rfl) ⟨⟨by first | omega | (simp only [List.length_append, List.length_cons, List.length_nil, List.length_set, List.length_take, List.length_drop, List.length_replicate, List.length_map, Nat.min_def]; omega) | (simp; done) | (simp; omega) | done, by first | omega | (simp only [List.length_append, List.length_cons, List.length_nil, List.length_set, List.length_take, List.length_drop, List.length_replicate, List.length_map, Nat.min_def]; omega) | (simp; done) | (simp; omega) | done⟩, trivial⟩ ?_
        intro a w h
        replace h := at_out (σ' := ⟨[(1, aF s126 x1), (2, .p (.c (.cl 203 .cnil))), (6, aB false), (15, aF s126 x0), (16, aI ((List.length x0 : Nat) : Int)), (17, aI (((i : Nat) : Int) + 1))], []⟩) { ts := [1, 2, 6, 15, 16, 17], os := [] } h (by kernel_rfl)
        exact ⟨i + 1, at_eq h (st_congr1 (fun (d0 : Int) => (⟨[(1, aF s126 x1), (2, .p (.c (.cl 203 .cnil))), (6, aB false), (15, aF s126 x0), (16, aI ((List.length x0 : Nat) : Int)), (17, aI d0)], []⟩ : St)) (show (((i : Nat) : Int) + 1 : Int) = (((i + 1) : Nat) : Int) from by first | with_reducible rfl | (omega) | rfl)), (by exact ⟨by omega, allTo2_succ hok0.2 h3⟩), (by omega)⟩
    · replace h2 : ¬ (((i : Nat) : Int) < ((List.length x0 : Nat) : Int)) := of_decide_eq_false h2
      refine wp_exit ?_
      refine then_exit ?_
      refine then_exit ?_
      refine in_hit ?_
      refine then_normal ?_
      refine wp_seq ?_
      refine at_regq (T := S_slices_EqualFunc_S_impl_CodedPacket_S_impl_CodedPacket_impl_CodedPacket_impl_CodedPacket__EqualPackets_tab) [] { ts := [6], os := [] } [] gamOK hT h (by kernel_rfl) trivial ?_
      intro a w h
      refine then_normal ?_
      refine wp_ret ?_
      exact at_return (S := S_slices_EqualFunc_S_impl_CodedPacket_S_impl_CodedPacket_impl_CodedPacket_impl_CodedPacket__EqualPackets) (x := (x0, x1, x2, ())) (true, ()) [] h (by kernel_rfl) trivial (congrArg (fun z => (z, ())) (show (true) = D_slices_EqualFunc_S_impl_CodedPacket_S_impl_CodedPacket_impl_CodedPacket_impl_CodedPacket__EqualPackets x0 x1 x2 from by unfold D_slices_EqualFunc_S_impl_CodedPacket_S_impl_CodedPacket_impl_CodedPacket_impl_CodedPacket__EqualPackets; exact (eqF_all (z := (0, ([], []))) (y := (0, ([], []))) (i := i) (by omega) (by omega) hok0.2).symm))

def S_impl_EqualRecoders : Sum := { fid := 136, dom := [s122, s122], cod := [(.bool 4)], dp := true, fz := false, pre := fun x => True, g := fun x => (((Sh.eqB s122) x.1 x.2.1), ()) }
def S_impl_EqualRecoders_tab : List (Nat × Sum) := [(100001, S_slices_EqualFunc_S_impl_CodedPacket_S_impl_CodedPacket_impl_CodedPacket_impl_CodedPacket__EqualPackets)]
theorem S_impl_EqualRecoders_ok : FnOK Try.prog 136 S_impl_EqualRecoders := by
  refine at_enter 38 (fun x => ⟨[(0, aG [cI x.1.1, cI x.1.2.1, cI x.1.2.2.1, .ro s126 x.1.2.2.2.1, cI x.1.2.2.2.2]), (1, aG [cI x.2.1.1, cI x.2.1.2.1, cI x.2.1.2.2.1, .ro s126 x.2.1.2.2.2.1, cI x.2.1.2.2.2.2])], []⟩) Try.func136 rfl (by kernel_rfl) (fun x => rfl) ?_
  rintro w0 Z0 ⟨x0, x1, u⟩ a w
  revert x0 x1
  intro (x0 : T122) (x1 : T122) hpre hlens h
  replace h : At w0 Z0 [] 38 ⟨[(0, aG [cI x0.1, cI x0.2.1, cI x0.2.2.1, .ro s126 x0.2.2.2.1, cI x0.2.2.2.2]), (1, aG [cI x1.1, cI x1.2.1, cI x1.2.2.1, .ro s126 x1.2.2.2.1, cI x1.2.2.2.2])], []⟩ a w := h
  have hl1 : List.length x0.2.2.2.1 ≤ 9223372036854775807 := hlens.1.2.2.2.1.1
  have hl2 : List.length x1.2.2.2.1 ≤ 9223372036854775807 := hlens.2.1.2.2.2.1.1
  have hT : TabOK Try.prog S_impl_EqualRecoders_tab := (.cons S_slices_EqualFunc_S_impl_CodedPacket_S_impl_CodedPacket_impl_CodedPacket_impl_CodedPacket__EqualPackets_ok .nil)
  refine wp_seq ?_
  refine at_regq (T := S_impl_EqualRecoders_tab) [{ ids := [1] }, { ids := [2] }] { ts := [2, 3, 4], os := [1, 2] } [] gamOK hT h (by kernel_rfl) trivial ?_
  intro a w h
  refine then_normal ?_
  refine wp_seq ?_
  by_cases h1 : x0.1 = x1.1
  · skip
    by_cases h2 : x0.2.1 = x1.2.1
    · skip
      by_cases h3 : x0.2.2.1 = x1.2.2.1
      · skip
        by_cases h4 : x0.2.2.2.2 = x1.2.2.2.2
        · skip
          refine at_regq (T := S_impl_EqualRecoders_tab) [{}, {}, {}, {}, { hint := some (aB true) }, {}, {}, {}, {}, {}, { hint := some (aB true) }, {}, {}, {}, {}, {}, {}, { hint := some (aB true) }, {}, {}, {}, {}, {}, {}, { hint := some (aB true) }, {}, {}, {}, {}, {}, {}, { key := some 100001 }] { ts := [4], os := [] } [(AV.p (.c (.v (.bool (decide (x0.1 = x1.1))))) = AV.p (.c (.v (.bool true)))), (AV.p (.c (.v (.bool (decide (x0.2.1 = x1.2.1))))) = AV.p (.c (.v (.bool true)))), (AV.p (.c (.v (.bool (decide (x0.2.2.1 = x1.2.2.1))))) = AV.p (.c (.v (.bool true)))), (AV.p (.c (.v (.bool (decide (x0.2.2.2.2 = x1.2.2.2.2))))) = AV.p (.c (.v (.bool true)))), True] gamOK hT h (by kernel_rfl) ⟨hint_bool (decide_eq_true h1), hint_bool (decide_eq_true h2), hint_bool (decide_eq_true h3), hint_bool (decide_eq_true h4), trivial, trivial⟩ ?_
          intro a w h
          refine then_normal ?_
          refine wp_ret ?_
          exact at_return (S := S_impl_EqualRecoders) (x := (x0, x1, ())) ((D_slices_EqualFunc_S_impl_CodedPacket_S_impl_CodedPacket_impl_CodedPacket_impl_CodedPacket__EqualPackets x0.2.2.2.1 x1.2.2.2.1 ()), ()) [] h (by kernel_rfl) trivial (congrArg (fun z => (z, ())) (show ((D_slices_EqualFunc_S_impl_CodedPacket_S_impl_CodedPacket_impl_CodedPacket_impl_CodedPacket__EqualPackets x0.2.2.2.1 x1.2.2.2.1 ())) = (Sh.eqB s122) x0 x1 from by (show _ = Sh.eqB s122 x0 x1; simp_all [Sh.eqB, D_slices_EqualFunc_S_impl_CodedPacket_S_impl_CodedPacket_impl_CodedPacket_impl_CodedPacket__EqualPackets, eqF_eqL])))
        · skip
          refine at_regq (T := S_impl_EqualRecoders_tab) [{}, {}, {}, {}, { hint := some (aB true) }, {}, {}, {}, {}, {}, { hint := some (aB true) }, {}, {}, {}, {}, {}, {}, { hint := some (aB true) }, {}, {}, {}, {}, {}, {}, { hint := some (aB false) }] { ts := [4], os := [] } [(AV.p (.c (.v (.bool (decide (x0.1 = x1.1))))) = AV.p (.c (.v (.bool true)))), (AV.p (.c (.v (.bool (decide (x0.2.1 = x1.2.1))))) = AV.p (.c (.v (.bool true)))), (AV.p (.c (.v (.bool (decide (x0.2.2.1 = x1.2.2.1))))) = AV.p (.c (.v (.bool true)))), (AV.p (.c (.v (.bool (decide (x0.2.2.2.2 = x1.2.2.2.2))))) = AV.p (.c (.v (.bool false))))] gamOK hT h (by kernel_rfl) ⟨hint_bool (decide_eq_true h1), hint_bool (decide_eq_true h2), hint_bool (decide_eq_true h3), hint_bool (decide_eq_false h4), trivial⟩ ?_
          intro a w h
          refine then_normal ?_
          refine wp_ret ?_
          exact at_return (S := S_impl_EqualRecoders) (x := (x0, x1, ())) (false, ()) [] h (by kernel_rfl) trivial (congrArg (fun z => (z, ())) (show (false) = (Sh.eqB s122) x0 x1 from by (show _ = Sh.eqB s122 x0 x1; simp_all [Sh.eqB, D_slices_EqualFunc_S_impl_CodedPacket_S_impl_CodedPacket_impl_CodedPacket_impl_CodedPacket__EqualPackets, eqF_eqL])))
      · skip
        refine at_regq (T := S_impl_EqualRecoders_tab) [{}, {}, {}, {}, { hint := some (aB true) }, {}, {}, {}, {}, {}, { hint := some (aB true) }, {}, {}, {}, {}, {}, {}, { hint := some (aB false) }] { ts := [4], os := [] } [(AV.p (.c (.v (.bool (decide (x0.1 = x1.1))))) = AV.p (.c (.v (.bool true)))), (AV.p (.c (.v (.bool (decide (x0.2.1 = x1.2.1))))) = AV.p (.c (.v (.bool true)))), (AV.p (.c (.v (.bool (decide (x0.2.2.1 = x1.2.2.1))))) = AV.p (.c (.v (.bool false))))] gamOK hT h (by kernel_rfl) ⟨hint_bool (decide_eq_true h1), hint_bool (decide_eq_true h2), hint_bool (decide_eq_false h3), trivial⟩ ?_
        intro a w h
        refine then_normal ?_
        refine wp_ret ?_
        exact at_return (S := S_impl_EqualRecoders) (x := (x0, x1, ())) (false, ()) [] h (by kernel_rfl) trivial (congrArg (fun z => (z, ())) (show (false) = (Sh.eqB s122) x0 x1 from by (show _ = Sh.eqB s122 x0 x1; simp_all [Sh.eqB, D_slices_EqualFunc_S_impl_CodedPacket_S_impl_CodedPacket_impl_CodedPacket_impl_CodedPacket__EqualPackets, eqF_eqL])))
    · skip
      refine at_regq (T := S_impl_EqualRecoders_tab) [{}, {}, {}, {}, { hint := some (aB true) }, {}, {}, {}, {}, {}, { hint := some (aB false) }] { ts := [4], os := [] } [(AV.p (.c (.v (.bool (decide (x0.1 = x1.1))))) = AV.p (.c (.v (.bool true)))), (AV.p (.c (.v (.bool (decide (x0.2.1 = x1.2.1))))) = AV.p (.c (.v (.bool false))))] gamOK hT h (by kernel_rfl) ⟨hint_bool (decide_eq_true h1), hint_bool (decide_eq_false h2), trivial⟩ ?_
      intro a w h
      refine then_normal ?_
      refine wp_ret ?_
      exact at_return (S := S_impl_EqualRecoders) (x := (x0, x1, ())) (false, ()) [] h (by kernel_rfl) trivial (congrArg (fun z => (z, ())) (show (false) = (Sh.eqB s122) x0 x1 from by (show _ = Sh.eqB s122 x0 x1; simp_all [Sh.eqB, D_slices_EqualFunc_S_impl_CodedPacket_S_impl_CodedPacket_impl_CodedPacket_impl_CodedPacket__EqualPackets, eqF_eqL])))
  · skip
    refine at_regq (T := S_impl_EqualRecoders_tab) [{}, {}, {}, {}, { hint := some (aB false) }] { ts := [4], os := [] } [(AV.p (.c (.v (.bool (decide (x0.1 = x1.1))))) = AV.p (.c (.v (.bool false))))] gamOK hT h (by kernel_rfl) ⟨hint_bool (decide_eq_false h1), trivial⟩ ?_
    intro a w h
    refine then_normal ?_
    refine wp_ret ?_
    exact at_return (S := S_impl_EqualRecoders) (x := (x0, x1, ())) (false, ()) [] h (by kernel_rfl) trivial (congrArg (fun z => (z, ())) (show (false) = (Sh.eqB s122) x0 x1 from by (show _ = Sh.eqB s122 x0 x1; simp_all [Sh.eqB, D_slices_EqualFunc_S_impl_CodedPacket_S_impl_CodedPacket_impl_CodedPacket_impl_CodedPacket__EqualPackets, eqF_eqL])))

def S_spec_EqualRecoders : Sum := { fid := 133, dom := [s122, s122], cod := [(.bool 4)], dp := true, fz := false, pre := fun x => True, g := fun x => (((Sh.eqB s122) x.1 x.2.1), ()) }
def S_spec_EqualRecoders_tab : List (Nat × Sum) := [(200, S_spec_EqualPackets)]
theorem S_spec_EqualRecoders_ok : FnOK Try.prog 133 S_spec_EqualRecoders := by
  refine at_enter 60 (fun x => ⟨[(0, aG [cI x.1.1, cI x.1.2.1, cI x.1.2.2.1, .ro s126 x.1.2.2.2.1, cI x.1.2.2.2.2]), (1, aG [cI x.2.1.1, cI x.2.1.2.1, cI x.2.1.2.2.1, .ro s126 x.2.1.2.2.2.1, cI x.2.1.2.2.2.2])], []⟩) Try.func133 rfl (by kernel_rfl) (fun x => rfl) ?_
  rintro w0 Z0 ⟨x0, x1, u⟩ a w
  revert x0 x1
  intro (x0 : T122) (x1 : T122) hpre hlens h
  replace h : At w0 Z0 [] 60 ⟨[(0, aG [cI x0.1, cI x0.2.1, cI x0.2.2.1, .ro s126 x0.2.2.2.1, cI x0.2.2.2.2]), (1, aG [cI x1.1, cI x1.2.1, cI x1.2.2.1, .ro s126 x1.2.2.2.1, cI x1.2.2.2.2])], []⟩ a w := h
  have hl1 : List.length x0.2.2.2.1 ≤ 9223372036854775807 := hlens.1.2.2.2.1.1
  have hl2 : List.length x1.2.2.2.1 ≤ 9223372036854775807 := hlens.2.1.2.2.2.1.1
  have hT : TabOK Try.prog S_spec_EqualRecoders_tab := (.cons S_spec_EqualPackets_ok .nil)
  refine wp_seq ?_
  refine at_regq (T := S_spec_EqualRecoders_tab) [{ ids := [1] }, { ids := [2] }] { ts := [2, 3, 4], os := [1, 2] } [] gamOK hT h (by kernel_rfl) trivial ?_
  intro a w h
  refine then_normal ?_
  refine wp_seq ?_
  refine wp_seq ?_
  by_cases h1 : x0.1 = x1.1
  · skip
    by_cases h2 : x0.2.1 = x1.2.1
    · skip
      by_cases h3 : x0.2.2.1 = x1.2.2.1
      · skip
        by_cases h4 : x0.2.2.2.2 = x1.2.2.2.2
        · skip
          refine at_regq (T := S_spec_EqualRecoders_tab) [{}, {}, {}, {}, { hint := some (aB false) }, {}, {}, {}, {}, {}, { hint := some (aB false) }, {}, {}, {}, {}, {}, {}, { hint := some (aB false) }, {}, {}, {}, {}, {}, {}, { hint := some (aB false) }] { ts := [2, 3, 4, 40], os := [1, 2] } [(AV.p (.c (.v (.bool (!decide (x0.1 = x1.1))))) = AV.p (.c (.v (.bool false)))), (AV.p (.c (.v (.bool (!decide (x0.2.1 = x1.2.1))))) = AV.p (.c (.v (.bool false)))), (AV.p (.c (.v (.bool (!decide (x0.2.2.1 = x1.2.2.1))))) = AV.p (.c (.v (.bool false)))), (AV.p (.c (.v (.bool (!decide (x0.2.2.2.2 = x1.2.2.2.2))))) = AV.p (.c (.v (.bool false))))] gamOK hT h (by kernel_rfl) ⟨hint_bool (ndT h1), hint_bool (ndT h2), hint_bool (ndT h3), hint_bool (ndT h4), trivial⟩ ?_
          intro a w h
          refine then_normal ?_
          refine at_test (!decide (((List.length x0.2.2.2.1 : Nat) : Int) = ((List.length x1.2.2.2.1 : Nat) : Int))) h (by kernel_rfl) (fun h5 => ?_) (fun h5 => ?_)
          · replace h5 : ¬ (((List.length x0.2.2.2.1 : Nat) : Int) = ((List.length x1.2.2.2.1 : Nat) : Int)) := of_decide_eq_false (notT h5)
            refine wp_seq ?_
            refine at_regq (T := S_spec_EqualRecoders_tab) [] { ts := [2, 3, 4], os := [1, 2] } [] gamOK hT h (by kernel_rfl) trivial ?_
            intro a w h
            refine then_normal ?_
            refine wp_ret ?_
            refine then_ret ?_
            exact at_return (S := S_spec_EqualRecoders) (x := (x0, x1, ())) (false, ()) [] h (by kernel_rfl) trivial (congrArg (fun z => (z, ())) (show (false) = (Sh.eqB s122) x0 x1 from by (show _ = Sh.eqB s122 x0 x1; first | exact (Sh.eqB_ne (fun e => by subst e; simp_all [Sh.eqB_self])).symm | (have e := hok0.2; rw [take_all (by omega), take_all (by omega)] at e; exact ((Sh.eqB_iff s122).2 (Prod.ext (by assumption) (Prod.ext (by assumption) (Prod.ext (by assumption) (Prod.ext e (by assumption)))))).symm))))
          · replace h5 : ((List.length x0.2.2.2.1 : Nat) : Int) = ((List.length x1.2.2.2.1 : Nat) : Int) := of_decide_eq_true (notF h5)
            refine wp_skip ?_
            refine then_normal ?_
            refine wp_seq ?_
            refine wp_seq ?_
            refine at_regq (T := S_spec_EqualRecoders_tab) [] { ts := [2, 3, 4, 5], os := [1, 2] } [] gamOK hT h (by kernel_rfl) trivial ?_
            intro a w h
            refine then_normal ?_
            refine wp_block ?_
            replace h := at_out (σ' := ⟨[(2, aP 1 0), (3, aP 2 0), (4, aB false), (5, aI 0)], [(1, oX 122 [cI x0.1, cI x0.2.1, cI x0.2.2.1, .ro s126 x0.2.2.2.1, cI x0.2.2.2.2]), (2, oX 122 [cI x1.1, cI x1.2.1, cI x1.2.2.1, .ro s126 x1.2.2.2.1, cI x1.2.2.2.2])]⟩) { ts := [2, 3, 4, 5], os := [1, 2] } h (by kernel_rfl)
            refine at_loop (fun i : Nat => (⟨[(2, aP 1 0), (3, aP 2 0), (4, aB false), (5, aI ((i : Nat) : Int))], [(1, oX 122 [cI x0.1, cI x0.2.1, cI x0.2.2.1, .ro s126 x0.2.2.2.1, cI x0.2.2.2.2]), (2, oX 122 [cI x1.1, cI x1.2.1, cI x1.2.2.1, .ro s126 x1.2.2.2.1, cI x1.2.2.2.2])]⟩ : St)) (fun i => (i ≤ List.length x0.2.2.2.1 ∧ x0.2.2.2.1.take i = x1.2.2.2.1.take i)) (fun i => List.length x0.2.2.2.1 - i) (0) h (st_congr1 (fun (d0 : Int) => (⟨[(2, aP 1 0), (3, aP 2 0), (4, aB false), (5, aI d0)], [(1, oX 122 [cI x0.1, cI x0.2.1, cI x0.2.2.1, .ro s126 x0.2.2.2.1, cI x0.2.2.2.2]), (2, oX 122 [cI x1.1, cI x1.2.1, cI x1.2.2.1, .ro s126 x1.2.2.2.1, cI x1.2.2.2.2])]⟩ : St)) (show (0 : Int) = (((0) : Nat) : Int) from by first | with_reducible rfl | (rfl) | rfl)) (by exact ⟨Nat.zero_le _, rfl⟩) ?_
            intro i a w hok0 h
            refine wp_seq ?_
            refine wp_seq ?_
            refine at_reg (T := S_spec_EqualRecoders_tab) [] { ts := [2, 3, 4, 5, 45], os := [1, 2] } ⟨[(2, aP 1 0), (3, aP 2 0), (4, aB false), (5, aI ((i : Nat) : Int)), (45, aB (decide (((i : Nat) : Int) < ((List.length x0.2.2.2.1 : Nat) : Int))))], [(1, oX 122 [cI x0.1, cI x0.2.1, cI x0.2.2.1, .ro s126 x0.2.2.2.1, cI x0.2.2.2.2]), (2, oX 122 [cI x1.1, cI x1.2.1, cI x1.2.2.1, .ro s126 x1.2.2.2.1, cI x1.2.2.2.2])]⟩ [] gamOK hT h (by kernel_rfl) trivial ?_
            intro a w h
            refine then_normal ?_
            refine at_test (decide (((i : Nat) : Int) < ((List.length x0.2.2.2.1 : Nat) : Int))) h (by kernel_rfl) (fun h6 => ?_) (fun h6 => ?_)
            · replace h6 : ((i : Nat) : Int) < ((List.length x0.2.2.2.1 : Nat) : Int) := of_decide_eq_true h6
              refine wp_skip ?_
              refine then_normal ?_
              refine wp_seq ?_
              refine wp_block ?_
              refine wp_seq ?_
              refine at_anyq (T := S_spec_EqualRecoders_tab) [{}, {}, {}, {}, {}, {}, {}, {}, {}, {}, {}, {}] { ts := [2, 3, 4, 5, 59], os := [1, 2] } [(0 : Int) ≤ ((i : Nat) : Int) ∧ ((i : Nat) : Int) < ((List.length x0.2.2.2.1 : Nat) : Int), (0 : Int) ≤ ((i : Nat) : Int) ∧ ((i : Nat) : Int) < ((List.length x1.2.2.2.1 : Nat) : Int), True] gamOK hT mixed h (by kernel_rfl) ⟨(by refine ⟨?_, ?_⟩ <;> (first | omega | (simp only [List.length_append, List.length_cons, List.length_nil, List.length_set, List.length_take, List.length_drop, List.length_replicate, List.length_map, Nat.min_def]; omega) | (simp; done) | (simp; omega) | done)), (by refine ⟨?_, ?_⟩ <;> (first | omega | (simp only [List.length_append, List.length_cons, List.length_nil, List.length_set, List.length_take, List.length_drop, List.length_replicate, List.length_map, Nat.min_def]; omega) | (simp; done) | (simp; omega) | done)), trivial, trivial⟩ ?_
              intro a w h
              refine then_normal ?_
              refine at_test (!((Sh.eqB s126) (x0.2.2.2.1.getD i (0, ([], []))) (x1.2.2.2.1.getD i (0, ([], []))))) h (by kernel_rfl) (fun h7 => ?_) (fun h7 => ?_)
              · replace h7 : ((Sh.eqB s126) (x0.2.2.2.1.getD i (0, ([], []))) (x1.2.2.2.1.getD i (0, ([], [])))) = false := notT h7
                refine wp_seq ?_
                refine at_regq (T := S_spec_EqualRecoders_tab) [] { ts := [2, 3, 4, 5], os := [1, 2] } [] gamOK hT h (by kernel_rfl) trivial ?_
                intro a w h
                refine then_normal ?_
                refine wp_ret ?_
                refine in_ret ?_
                refine then_ret ?_
                refine then_ret ?_
                refine in_ret ?_
                refine then_ret ?_
                exact at_return (S := S_spec_EqualRecoders) (x := (x0, x1, ())) (false, ()) [] h (by kernel_rfl) trivial (congrArg (fun z => (z, ())) (show (false) = (Sh.eqB s122) x0 x1 from by (show _ = Sh.eqB s122 x0 x1; first | exact (Sh.eqB_ne (fun e => by subst e; simp_all [Sh.eqB_self])).symm | (have e := hok0.2; rw [take_all (by omega), take_all (by omega)] at e; exact ((Sh.eqB_iff s122).2 (Prod.ext (by assumption) (Prod.ext (by assumption) (Prod.ext (by assumption) (Prod.ext e (by assumption)))))).symm))))
              · replace h7 : ((Sh.eqB s126) (x0.2.2.2.1.getD i (0, ([], []))) (x1.2.2.2.1.getD i (0, ([], [])))) = true := notF h7
                refine wp_skip ?_
                refine in_normal ?_
                refine then_normal ?_
                refine at_regq (T := S_spec_EqualRecoders_tab) [{}, { nw := true }] { ts := [2, 3, 4, 5], os := [1, 2] } [I64 (((i : Nat) : Int) + 1)] gamOK hT h (by kernel_rfl) ⟨⟨by first | omega | (simp only [List.length_append, List.length_cons, List.length_nil, List.length_set, List.length_take, List.length_drop, List.length_replicate, List.length_map, Nat.min_def]; omega) | (simp; done) | (simp; omega) | done, by first | omega | (simp only [List.length_append, List.length_cons, List.length_nil, List.length_set, List.length_take, List.length_drop, List.length_replicate, List.length_map, Nat.min_def]; omega) | (simp; done) | (simp; omega) | done⟩, trivial⟩ ?_
                intro a w h
                replace h := at_out (σ' := ⟨[(2, aP 1 0), (3, aP 2 0), (4, aB false), (5, aI (((i : Nat) : Int) + 1))], [(1, oX 122 [cI x0.1, cI x0.2.1, cI x0.2.2.1, .ro s126 x0.2.2.2.1, cI x0.2.2.2.2]), (2, oX 122 [cI x1.1, cI x1.2.1, cI x1.2.2.1, .ro s126 x1.2.2.2.1, cI x1.2.2.2.2])]⟩) { ts := [2, 3, 4, 5], os := [1, 2] } h (by kernel_rfl)
                exact ⟨i + 1, at_eq h (st_congr1 (fun (d0 : Int) => (⟨[(2, aP 1 0), (3, aP 2 0), (4, aB false), (5, aI d0)], [(1, oX 122 [cI x0.1, cI x0.2.1, cI x0.2.2.1, .ro s126 x0.2.2.2.1, cI x0.2.2.2.2]), (2, oX 122 [cI x1.1, cI x1.2.1, cI x1.2.2.1, .ro s126 x1.2.2.2.1, cI x1.2.2.2.2])]⟩ : St)) (show (((i : Nat) : Int) + 1 : Int) = (((i + 1) : Nat) : Int) from by first | with_reducible rfl | (omega) | rfl)), (by exact ⟨by omega, eqTo_step (z := (0, ([], []))) (by omega) (by omega) hok0.2 (Sh.of_eqB (by assumption))⟩), (by omega)⟩
            · replace h6 : ¬ (((i : Nat) : Int) < ((List.length x0.2.2.2.1 : Nat) : Int)) := of_decide_eq_false h6
              refine wp_exit ?_
              refine then_exit ?_
              refine then_exit ?_
              refine in_hit ?_
              refine then_normal ?_
              refine wp_seq ?_
              refine at_regq (T := S_spec_EqualRecoders_tab) [] { ts := [4], os := [] } [] gamOK hT h (by kernel_rfl) trivial ?_
              intro a w h
              refine then_normal ?_
              refine wp_ret ?_
              exact at_return (S := S_spec_EqualRecoders) (x := (x0, x1, ())) (true, ()) [] h (by kernel_rfl) trivial (congrArg (fun z => (z, ())) (show (true) = (Sh.eqB s122) x0 x1 from by (show _ = Sh.eqB s122 x0 x1; first | exact (Sh.eqB_ne (fun e => by subst e; simp_all [Sh.eqB_self])).symm | (have e := hok0.2; rw [take_all (by omega), take_all (by omega)] at e; exact ((Sh.eqB_iff s122).2 (Prod.ext (by assumption) (Prod.ext (by assumption) (Prod.ext (by assumption) (Prod.ext e (by assumption)))))).symm))))
        · skip
          refine at_regq (T := S_spec_EqualRecoders_tab) [{}, {}, {}, {}, { hint := some (aB false) }, {}, {}, {}, {}, {}, { hint := some (aB false) }, {}, {}, {}, {}, {}, {}, { hint := some (aB false) }, {}, {}, {}, {}, {}, {}, { hint := some (aB true) }] { ts := [2, 3, 4, 40], os := [1, 2] } [(AV.p (.c (.v (.bool (!decide (x0.1 = x1.1))))) = AV.p (.c (.v (.bool false)))), (AV.p (.c (.v (.bool (!decide (x0.2.1 = x1.2.1))))) = AV.p (.c (.v (.bool false)))), (AV.p (.c (.v (.bool (!decide (x0.2.2.1 = x1.2.2.1))))) = AV.p (.c (.v (.bool false)))), (AV.p (.c (.v (.bool (!decide (x0.2.2.2.2 = x1.2.2.2.2))))) = AV.p (.c (.v (.bool true))))] gamOK hT h (by kernel_rfl) ⟨hint_bool (ndT h1), hint_bool (ndT h2), hint_bool (ndT h3), hint_bool (ndF h4), trivial⟩ ?_
          intro a w h
          refine then_normal ?_
          refine at_test true h (by kernel_rfl) (fun hh => ?_) (fun hh => nomatch hh)
          refine wp_seq ?_
          refine at_regq (T := S_spec_EqualRecoders_tab) [] { ts := [2, 3, 4], os := [1, 2] } [] gamOK hT h (by kernel_rfl) trivial ?_
          intro a w h
          refine then_normal ?_
          refine wp_ret ?_
          refine then_ret ?_
          exact at_return (S := S_spec_EqualRecoders) (x := (x0, x1, ())) (false, ()) [] h (by kernel_rfl) trivial (congrArg (fun z => (z, ())) (show (false) = (Sh.eqB s122) x0 x1 from by (show _ = Sh.eqB s122 x0 x1; first | exact (Sh.eqB_ne (fun e => by subst e; simp_all [Sh.eqB_self])).symm | (have e := hok0.2; rw [take_all (by omega), take_all (by omega)] at e; exact ((Sh.eqB_iff s122).2 (Prod.ext (by assumption) (Prod.ext (by assumption) (Prod.ext (by assumption) (Prod.ext e (by assumption)))))).symm))))
      · skip
        refine at_regq (T := S_spec_EqualRecoders_tab) [{}, {}, {}, {}, { hint := some (aB false) }, {}, {}, {}, {}, {}, { hint := some (aB false) }, {}, {}, {}, {}, {}, {}, { hint := some (aB true) }] { ts := [2, 3, 4, 40], os := [1, 2] } [(AV.p (.c (.v (.bool (!decide (x0.1 = x1.1))))) = AV.p (.c (.v (.bool false)))), (AV.p (.c (.v (.bool (!decide (x0.2.1 = x1.2.1))))) = AV.p (.c (.v (.bool false)))), (AV.p (.c (.v (.bool (!decide (x0.2.2.1 = x1.2.2.1))))) = AV.p (.c (.v (.bool true))))] gamOK hT h (by kernel_rfl) ⟨hint_bool (ndT h1), hint_bool (ndT h2), hint_bool (ndF h3), trivial⟩ ?_
        intro a w h
        refine then_normal ?_
        refine at_test true h (by kernel_rfl) (fun hh => ?_) (fun hh => nomatch hh)
        refine wp_seq ?_
        refine at_regq (T := S_spec_EqualRecoders_tab) [] { ts := [2, 3, 4], os := [1, 2] } [] gamOK hT h (by kernel_rfl) trivial ?_
        intro a w h
        refine then_normal ?_
        refine wp_ret ?_
        refine then_ret ?_
        exact at_return (S := S_spec_EqualRecoders) (x := (x0, x1, ())) (false, ()) [] h (by kernel_rfl) trivial (congrArg (fun z => (z, ())) (show (false) = (Sh.eqB s122) x0 x1 from by (show _ = Sh.eqB s122 x0 x1; first | exact (Sh.eqB_ne (fun e => by subst e; simp_all [Sh.eqB_self])).symm | (have e := hok0.2; rw [take_all (by omega), take_all (by omega)] at e; exact ((Sh.eqB_iff s122).2 (Prod.ext (by assumption) (Prod.ext (by assumption) (Prod.ext (by assumption) (Prod.ext e (by assumption)))))).symm))))
    · skip
      refine at_regq (T := S_spec_EqualRecoders_tab) [{}, {}, {}, {}, { hint := some (aB false) }, {}, {}, {}, {}, {}, { hint := some (aB true) }] { ts := [2, 3, 4, 40], os := [1, 2] } [(AV.p (.c (.v (.bool (!decide (x0.1 = x1.1))))) = AV.p (.c (.v (.bool false)))), (AV.p (.c (.v (.bool (!decide (x0.2.1 = x1.2.1))))) = AV.p (.c (.v (.bool true))))] gamOK hT h (by kernel_rfl) ⟨hint_bool (ndT h1), hint_bool (ndF h2), trivial⟩ ?_
      intro a w h
      refine then_normal ?_
      refine at_test true h (by kernel_rfl) (fun hh => ?_) (fun hh => nomatch hh)
      refine wp_seq ?_
      refine at_regq (T := S_spec_EqualRecoders_tab) [] { ts := [2, 3, 4], os := [1, 2] } [] gamOK hT h (by kernel_rfl) trivial ?_
      intro a w h
      refine then_normal ?_
      refine wp_ret ?_
      refine then_ret ?_
      exact at_return (S := S_spec_EqualRecoders) (x := (x0, x1, ())) (false, ()) [] h (by kernel_rfl) trivial (congrArg (fun z => (z, ())) (show (false) = (Sh.eqB s122) x0 x1 from by (show _ = Sh.eqB s122 x0 x1; first | exact (Sh.eqB_ne (fun e => by subst e; simp_all [Sh.eqB_self])).symm | (have e := hok0.2; rw [take_all (by omega), take_all (by omega)] at e; exact ((Sh.eqB_iff s122).2 (Prod.ext (by assumption) (Prod.ext (by assumption) (Prod.ext (by assumption) (Prod.ext e (by assumption)))))).symm))))
  · skip
    refine at_regq (T := S_spec_EqualRecoders_tab) [{}, {}, {}, {}, { hint := some (aB true) }] { ts := [2, 3, 4, 40], os := [1, 2] } [(AV.p (.c (.v (.bool (!decide (x0.1 = x1.1))))) = AV.p (.c (.v (.bool true))))] gamOK hT h (by kernel_rfl) ⟨hint_bool (ndF h1), trivial⟩ ?_
    intro a w h
    refine then_normal ?_
    refine at_test true h (by kernel_rfl) (fun hh => ?_) (fun hh => nomatch hh)
    refine wp_seq ?_
    refine at_regq (T := S_spec_EqualRecoders_tab) [] { ts := [2, 3, 4], os := [1, 2] } [] gamOK hT h (by kernel_rfl) trivial ?_
    intro a w h
    refine then_normal ?_
    refine wp_ret ?_
    refine then_ret ?_
    exact at_return (S := S_spec_EqualRecoders) (x := (x0, x1, ())) (false, ()) [] h (by kernel_rfl) trivial (congrArg (fun z => (z, ())) (show (false) = (Sh.eqB s122) x0 x1 from by (show _ = Sh.eqB s122 x0 x1; first | exact (Sh.eqB_ne (fun e => by subst e; simp_all [Sh.eqB_self])).symm | (have e := hok0.2; rw [take_all (by omega), take_all (by omega)] at e; exact ((Sh.eqB_iff s122).2 (Prod.ext (by assumption) (Prod.ext (by assumption) (Prod.ext (by assumption) (Prod.ext e (by assumption)))))).symm))))

def D_slices_EqualFunc_S_impl_Recoder_S_impl_Recoder_impl_Recoder_impl_Recoder__EqualRecoders := (fun (xs ys : List T122) (_ : Unit) => eqF (Sh.eqB s122) xs ys)
def S_slices_EqualFunc_S_impl_Recoder_S_impl_Recoder_impl_Recoder_impl_Recoder__EqualRecoders : Sum := { fid := 135, dom := [s68, s68, (.fn0 136)], cod := [(.bool 4)], dp := true, fz := false, pre := fun x => True, g := fun x => ((D_slices_EqualFunc_S_impl_Recoder_S_impl_Recoder_impl_Recoder_impl_Recoder__EqualRecoders x.1 x.2.1 x.2.2.1), ()) }
def S_slices_EqualFunc_S_impl_Recoder_S_impl_Recoder_impl_Recoder_impl_Recoder__EqualRecoders_tab : List (Nat × Sum) := [(136, S_impl_EqualRecoders)]
theorem S_slices_EqualFunc_S_impl_Recoder_S_impl_Recoder_impl_Recoder_impl_Recoder__EqualRecoders_ok : FnOK Try.prog 135 S_slices_EqualFunc_S_impl_Recoder_S_impl_Recoder_impl_Recoder_impl_Recoder__EqualRecoders := by
  refine at_enter 32 (fun x => ⟨[(0, aF s122 x.1), (1, aF s122 x.2.1), (2, .p (.c (.cl 136 .cnil)))], []⟩) Try.func135 rfl (by kernel_rfl) (fun x => rfl) ?_
  rintro w0 Z0 ⟨x0, x1, x2, u⟩ a w
  revert x0 x1 x2
  intro (x0 : (List T122)) (x1 : (List T122)) (x2 : Unit) hpre hlens h
  replace h : At w0 Z0 [] 32 ⟨[(0, aF s122 x0), (1, aF s122 x1), (2, .p (.c (.cl 136 .cnil)))], []⟩ a w := h
  have hl1 : List.length x0 ≤ 9223372036854775807 := hlens.1.1
  have hl2 : List.length x1 ≤ 9223372036854775807 := hlens.2.1.1
  have hT : TabOK Try.prog S_slices_EqualFunc_S_impl_Recoder_S_impl_Recoder_impl_Recoder_impl_Recoder__EqualRecoders_tab := (.cons S_impl_EqualRecoders_ok .nil)
  refine wp_seq ?_
  refine at_regq (T := S_slices_EqualFunc_S_impl_Recoder_S_impl_Recoder_impl_Recoder_impl_Recoder__EqualRecoders_tab) [] { ts := [0, 1, 2, 6], os := [] } [] gamOK hT h (by kernel_rfl) trivial ?_
  intro a w h
  refine then_normal ?_
  refine wp_seq ?_
  refine wp_seq ?_
  refine at_regq (T := S_slices_EqualFunc_S_impl_Recoder_S_impl_Recoder_impl_Recoder_impl_Recoder__EqualRecoders_tab) [] { ts := [0, 1, 2, 6, 14], os := [] } [] gamOK hT h (by kernel_rfl) trivial ?_
  intro a w h
  refine then_normal ?_
  refine at_test (!decide (((List.length x0 : Nat) : Int) = ((List.length x1 : Nat) : Int))) h (by kernel_rfl) (fun h1 => ?_) (fun h1 => ?_)
  · replace h1 : ¬ (((List.length x0 : Nat) : Int) = ((List.length x1 : Nat) : Int)) := of_decide_eq_false (notT h1)
    refine wp_seq ?_
    refine at_regq (T := S_slices_EqualFunc_S_impl_Recoder_S_impl_Recoder_impl_Recoder_impl_Recoder__EqualRecoders_tab) [] { ts := [0, 1, 2, 6], os := [] } [] gamOK hT h (by kernel_rfl) trivial ?_
    intro a w h
    refine then_normal ?_
    refine wp_ret ?_
    refine then_ret ?_
    exact at_return (S := S_slices_EqualFunc_S_impl_Recoder_S_impl_Recoder_impl_Recoder_impl_Recoder__EqualRecoders) (x := (x0, x1, x2, ())) (false, ()) [] h (by kernel_rfl) trivial (congrArg (fun z => (z, ())) (show (false) = D_slices_EqualFunc_S_impl_Recoder_S_impl_Recoder_impl_Recoder_impl_Recoder__EqualRecoders x0 x1 x2 from by unfold D_slices_EqualFunc_S_impl_Recoder_S_impl_Recoder_impl_Recoder_impl_Recoder__EqualRecoders; exact (eqF_len (fun e => h1 (by rw [e]))).symm))
  · replace h1 : ((List.length x0 : Nat) : Int) = ((List.length x1 : Nat) : Int) := of_decide_eq_true (notF h1)
    refine wp_skip ?_
    refine then_normal ?_
    refine wp_seq ?_
    refine wp_seq ?_
    refine at_regq (T := S_slices_EqualFunc_S_impl_Recoder_S_impl_Recoder_impl_Recoder_impl_Recoder__EqualRecoders_tab) [] { ts := [1, 2, 6, 15, 16, 17], os := [] } [] gamOK hT h (by kernel_rfl) trivial ?_
    intro a w h
    refine then_normal ?_
    refine wp_block ?_
    replace h := at_out (σ' := ⟨[(1, aF s122 x1), (2, .p (.c (.cl 136 .cnil))), (6, aB false), (15, aF s122 x0), (16, aI ((List.length x0 : Nat) : Int)), (17, aI 0)], []⟩) { ts := [1, 2, 6, 15, 16, 17], os := [] } h (by kernel_rfl)
    refine at_loop (fun i : Nat => (⟨[(1, aF s122 x1), (2, .p (.c (.cl 136 .cnil))), (6, aB false), (15, aF s122 x0), (16, aI ((List.length x0 : Nat) : Int)), (17, aI ((i : Nat) : Int))], []⟩ : St)) (fun i => (i ≤ List.length x0 ∧ allTo2 (Sh.eqB s122) x0 x1 (0, (0, (0, ([], 0)))) (0, (0, (0, ([], 0)))) i)) (fun i => List.length x0 - i) (0) h (st_congr1 (fun (d0 : Int) => (⟨[(1, aF s122 x1), (2, .p (.c (.cl 136 .cnil))), (6, aB false), (15, aF s122 x0), (16, aI ((List.length x0 : Nat) : Int)), (17, aI d0)], []⟩ : St)) (show (0 : Int) = (((0) : Nat) : Int) from by first | with_reducible rfl | (rfl) | rfl)) (by exact ⟨Nat.zero_le _, allTo2_zero⟩) ?_
    intro i a w hok0 h
    refine wp_seq ?_
    refine at_reg (T := S_slices_EqualFunc_S_impl_Recoder_S_impl_Recoder_impl_Recoder_impl_Recoder__EqualRecoders_tab) [] { ts := [1, 2, 6, 15, 16, 17, 18], os := [] } ⟨[(1, aF s122 x1), (2, .p (.c (.cl 136 .cnil))), (6, aB false), (15, aF s122 x0), (16, aI ((List.length x0 : Nat) : Int)), (17, aI ((i : Nat) : Int)), (18, aB (decide (((i : Nat) : Int) < ((List.length x0 : Nat) : Int))))], []⟩ [] gamOK hT h (by kernel_rfl) trivial ?_
    intro a w h
    refine then_normal ?_
    refine wp_seq ?_
    refine at_test (decide (((i : Nat) : Int) < ((List.length x0 : Nat) : Int))) h (by kernel_rfl) (fun h2 => ?_) (fun h2 => ?_)
    · replace h2 : ((i : Nat) : Int) < ((List.length x0 : Nat) : Int) := of_decide_eq_true h2
      refine wp_skip ?_
      refine then_normal ?_
      refine wp_seq ?_
      refine wp_block ?_
      refine wp_seq ?_
      refine at_regq (T := S_slices_EqualFunc_S_impl_Recoder_S_impl_Recoder_impl_Recoder_impl_Recoder__EqualRecoders_tab) [{}, {}, {}, { ids := [1] }] { ts := [1, 2, 6, 7, 8, 15, 16, 17], os := [1] } [(0 : Int) ≤ ((i : Nat) : Int) ∧ ((i : Nat) : Int) < ((List.length x0 : Nat) : Int)] gamOK hT h (by kernel_rfl) ⟨(by refine ⟨?_, ?_⟩ <;> (first | omega | (simp only [List.length_append, List.length_cons, List.length_nil, List.length_set, List.length_take, List.length_drop, List.length_replicate, List.length_map, Nat.min_def]; omega) | (simp; done) | (simp; omega) | done)), trivial⟩ ?_
      intro a w h
      refine then_normal ?_
      refine wp_seq ?_
      refine at_regq (T := S_slices_EqualFunc_S_impl_Recoder_S_impl_Recoder_impl_Recoder_impl_Recoder__EqualRecoders_tab) [{}, {}, {}, {}, { ids := [2] }] { ts := [1, 2, 6, 8, 9, 15, 16, 17], os := [1, 2] } [(0 : Int) ≤ ((i : Nat) : Int) ∧ ((i : Nat) : Int) < ((List.length x1 : Nat) : Int)] gamOK hT h (by kernel_rfl) ⟨(by refine ⟨?_, ?_⟩ <;> (first | omega | (simp only [List.length_append, List.length_cons, List.length_nil, List.length_set, List.length_take, List.length_drop, List.length_replicate, List.length_map, Nat.min_def]; omega) | (simp; done) | (simp; omega) | done)), trivial⟩ ?_
      intro a w h
      refine then_normal ?_
      refine wp_seq ?_
      refine at_regq (T := S_slices_EqualFunc_S_impl_Recoder_S_impl_Recoder_impl_Recoder_impl_Recoder__EqualRecoders_tab) [] { ts := [1, 2, 6, 15, 16, 17, 30], os := [] } [True] gamOK hT h (by kernel_rfl) ⟨trivial, trivial⟩ ?_
      intro a w h
      refine then_normal ?_
      refine at_test (!((Sh.eqB s122) (x0.getD i (0, (0, (0, ([], 0))))) (x1.getD i (0, (0, (0, ([], 0))))))) h (by kernel_rfl) (fun h3 => ?_) (fun h3 => ?_)
      · replace h3 : ((Sh.eqB s122) (x0.getD i (0, (0, (0, ([], 0))))) (x1.getD i (0, (0, (0, ([], 0)))))) = false := notT h3
        refine wp_seq ?_
        refine at_reg (T := S_slices_EqualFunc_S_impl_Recoder_S_impl_Recoder_impl_Recoder_impl_Recoder__EqualRecoders_tab) [] { ts := [1, 2, 6, 15, 16, 17], os := [] } ⟨[(1, aF s122 x1), (2, .p (.c (.cl 136 .cnil))), (6, aB false), (15, aF s122 x0), (16, aI ((List.length x0 : Nat) : Int)), (17, aI ((i : Nat) : Int))], []⟩ [] gamOK hT h (by kernel_rfl) trivial ?_
        intro a w h
        refine then_normal ?_
        refine wp_ret ?_
        refine in_ret ?_
        refine then_ret ?_
        refine then_ret ?_
        refine in_ret ?_
        refine then_ret ?_
        exact at_return (S := S_slices_EqualFunc_S_impl_Recoder_S_impl_Recoder_impl_Recoder_impl_Recoder__EqualRecoders) (x := (x0, x1, x2, ())) (false, ()) [] h (by kernel_rfl) trivial (congrArg (fun z => (z, ())) (show (false) = D_slices_EqualFunc_S_impl_Recoder_S_impl_Recoder_impl_Recoder_impl_Recoder__EqualRecoders x0 x1 x2 from by unfold D_slices_EqualFunc_S_impl_Recoder_S_impl_Recoder_impl_Recoder_impl_Recoder__EqualRecoders; exact (eqF_at (z := (0, (0, (0, ([], 0))))) (y := (0, (0, (0, ([], 0))))) (i := i) (by omega) (by omega) h3).symm))
      · replace h3 : ((Sh.eqB s122) (x0.getD i (0, (0, (0, ([], 0))))) (x1.getD i (0, (0, (0, ([], 0)))))) = true := notF h3
        refine wp_skip ?_
        refine in_normal ?_
        refine then_normal ?_
        refine at_reg (T := S_slices_EqualFunc_S_impl_Recoder_S_impl_Recoder_impl_Recoder_impl_Recoder__EqualRecoders_tab) [{ nw := true }] { ts := [1, 2, 6, 15, 16, 17], os := [] } ⟨[(1, aF s122 x1), (2, .p (.c (.cl 136 .cnil))), (6, aB false), (15, aF s122 x0), (16, aI ((List.length x0 : Nat) : Int)), (17, aI (((i : Nat) : Int) + 1))], []⟩ [I64 (((i : Nat) : Int) + 1)] gamOK hT h (by kernel_rfl) ⟨⟨by first | omega | (simp only [List.length_append, List.length_cons, List.length_nil, List.length_set, List.length_take, List.length_drop, List.length_replicate, List.length_map, Nat.min_def]; omega) | (simp; done) | (simp; omega) | done, by first | omega | (simp only [List.length_append, List.length_cons, List.length_nil, List.length_set, List.length_take, List.length_drop, List.length_replicate, List.length_map, Nat.min_def]; omega) | (simp; done) | (simp; omega) | done⟩, trivial⟩ ?_
        intro a w h
        replace h := at_out (σ' := ⟨[(1, aF s122 x1), (2, .p (.c (.cl 136 .cnil))), (6, aB false), (15, aF s122 x0), (16, aI ((List.length x0 : Nat) : Int)), (17, aI (((i : Nat) : Int) + 1))], []⟩) { ts := [1, 2, 6, 15, 16, 17], os := [] } h (by kernel_rfl)
        exact ⟨i + 1, at_eq h (st_congr1 (fun (d0 : Int) => (⟨[(1, aF s122 x1), (2, .p (.c (.cl 136 .cnil))), (6, aB false), (15, aF s122 x0), (16, aI ((List.length x0 : Nat) : Int)), (17, aI d0)], []⟩ : St)) (show (((i : Nat) : Int) + 1 : Int) = (((i + 1) : Nat) : Int) from by first | with_reducible rfl | (omega) | rfl)), (by exact ⟨by omega, allTo2_succ hok0.2 h3⟩), (by omega)⟩
    · replace h2 : ¬ (((i : Nat) : Int) < ((List.length x0 : Nat) : Int)) := of_decide_eq_false h2
      refine wp_exit ?_
      refine then_exit ?_
      refine then_exit ?_
      refine in_hit ?_
      refine then_normal ?_
      refine wp_seq ?_
      refine at_regq (T := S_slices_EqualFunc_S_impl_Recoder_S_impl_Recoder_impl_Recoder_impl_Recoder__EqualRecoders_tab) [] { ts := [6], os := [] } [] gamOK hT h (by kernel_rfl) trivial ?_
      intro a w h
      refine then_normal ?_
      refine wp_ret ?_
      exact at_return (S := S_slices_EqualFunc_S_impl_Recoder_S_impl_Recoder_impl_Recoder_impl_Recoder__EqualRecoders) (x := (x0, x1, x2, ())) (true, ()) [] h (by kernel_rfl) trivial (congrArg (fun z => (z, ())) (show (true) = D_slices_EqualFunc_S_impl_Recoder_S_impl_Recoder_impl_Recoder_impl_Recoder__EqualRecoders x0 x1 x2 from by unfold D_slices_EqualFunc_S_impl_Recoder_S_impl_Recoder_impl_Recoder_impl_Recoder__EqualRecoders; exact (eqF_all (z := (0, (0, (0, ([], 0))))) (y := (0, (0, (0, ([], 0))))) (i := i) (by omega) (by omega) hok0.2).symm))

def S_spec_EqualMatrices : Sum := { fid := 171, dom := [s80, s80], cod := [(.bool 4)], dp := true, fz := false, pre := fun x => True, g := fun x => (((Sh.eqB s80) x.1 x.2.1), ()) }
def S_spec_EqualMatrices_tab : List (Nat × Sum) := [(88, S_spec_EqualInts)]
theorem S_spec_EqualMatrices_ok : FnOK Try.prog 171 S_spec_EqualMatrices := by
  refine at_enter 27 (fun x => ⟨[(0, aF s22 x.1), (1, aF s22 x.2.1)], []⟩) Try.func171 rfl (by kernel_rfl) (fun x => rfl) ?_
  rintro w0 Z0 ⟨x0, x1, u⟩ a w
  revert x0 x1
  intro (x0 : (List (List Int))) (x1 : (List (List Int))) hpre hlens h
  replace h : At w0 Z0 [] 27 ⟨[(0, aF s22 x0), (1, aF s22 x1)], []⟩ a w := h
  have hl1 : List.length x0 ≤ 9223372036854775807 := hlens.1.1
  have hl2 : List.length x1 ≤ 9223372036854775807 := hlens.2.1.1
  have hT : TabOK Try.prog S_spec_EqualMatrices_tab := (.cons S_spec_EqualInts_ok .nil)
  refine wp_seq ?_
  refine at_regq (T := S_spec_EqualMatrices_tab) [] { ts := [0, 1, 4], os := [] } [] gamOK hT h (by kernel_rfl) trivial ?_
  intro a w h
  refine then_normal ?_
  refine wp_seq ?_
  refine wp_seq ?_
  refine at_regq (T := S_spec_EqualMatrices_tab) [] { ts := [0, 1, 4, 10], os := [] } [] gamOK hT h (by kernel_rfl) trivial ?_
  intro a w h
  refine then_normal ?_
  refine at_test (!decide (((List.length x0 : Nat) : Int) = ((List.length x1 : Nat) : Int))) h (by kernel_rfl) (fun h1 => ?_) (fun h1 => ?_)
  · replace h1 : ¬ (((List.length x0 : Nat) : Int) = ((List.length x1 : Nat) : Int)) := of_decide_eq_false (notT h1)
    refine wp_seq ?_
    refine at_regq (T := S_spec_EqualMatrices_tab) [] { ts := [0, 1, 4], os := [] } [] gamOK hT h (by kernel_rfl) trivial ?_
    intro a w h
    refine then_normal ?_
    refine wp_ret ?_
    refine then_ret ?_
    exact at_return (S := S_spec_EqualMatrices) (x := (x0, x1, ())) (false, ()) [] h (by kernel_rfl) trivial (congrArg (fun z => (z, ())) (show (false) = (Sh.eqB s80) x0 x1 from by (show _ = Sh.eqB s80 x0 x1; first | exact (Sh.eqB_ne (fun e => by subst e; simp_all [Sh.eqB_self])).symm | (have e := hok0.2; rw [take_all (by omega), take_all (by omega)] at e; exact ((Sh.eqB_iff s80).2 e).symm))))
  · replace h1 : ((List.length x0 : Nat) : Int) = ((List.length x1 : Nat) : Int) := of_decide_eq_true (notF h1)
    refine wp_skip ?_
    refine then_normal ?_
    refine wp_seq ?_
    refine wp_seq ?_
    refine at_regq (T := S_spec_EqualMatrices_tab) [] { ts := [0, 1, 4, 5], os := [] } [] gamOK hT h (by kernel_rfl) trivial ?_
    intro a w h
    refine then_normal ?_
    refine wp_block ?_
    replace h := at_out (σ' := ⟨[(0, aF s22 x0), (1, aF s22 x1), (4, aB false), (5, aI 0)], []⟩) { ts := [0, 1, 4, 5], os := [] } h (by kernel_rfl)
    refine at_loop (fun i : Nat => (⟨[(0, aF s22 x0), (1, aF s22 x1), (4, aB false), (5, aI ((i : Nat) : Int))], []⟩ : St)) (fun i => (i ≤ List.length x0 ∧ x0.take i = x1.take i)) (fun i => List.length x0 - i) (0) h (st_congr1 (fun (d0 : Int) => (⟨[(0, aF s22 x0), (1, aF s22 x1), (4, aB false), (5, aI d0)], []⟩ : St)) (show (0 : Int) = (((0) : Nat) : Int) from by first | with_reducible rfl | (rfl) | rfl)) (by exact ⟨Nat.zero_le _, rfl⟩) ?_
    intro i a w hok0 h
    refine wp_seq ?_
    refine wp_seq ?_
    refine at_reg (T := S_spec_EqualMatrices_tab) [] { ts := [0, 1, 4, 5, 14], os := [] } ⟨[(0, aF s22 x0), (1, aF s22 x1), (4, aB false), (5, aI ((i : Nat) : Int)), (14, aB (decide (((i : Nat) : Int) < ((List.length x0 : Nat) : Int))))], []⟩ [] gamOK hT h (by kernel_rfl) trivial ?_
    intro a w h
    refine then_normal ?_
    refine at_test (decide (((i : Nat) : Int) < ((List.length x0 : Nat) : Int))) h (by kernel_rfl) (fun h2 => ?_) (fun h2 => ?_)
    · replace h2 : ((i : Nat) : Int) < ((List.length x0 : Nat) : Int) := of_decide_eq_true h2
      refine wp_skip ?_
      refine then_normal ?_
      refine wp_seq ?_
      refine wp_block ?_
      refine wp_seq ?_
      refine at_anyq (T := S_spec_EqualMatrices_tab) [{}, {}, {}, {}, {}, {}, {}, {}, {}, {}] { ts := [0, 1, 4, 5, 26], os := [] } [(0 : Int) ≤ ((i : Nat) : Int) ∧ ((i : Nat) : Int) < ((List.length x0 : Nat) : Int), (0 : Int) ≤ ((i : Nat) : Int) ∧ ((i : Nat) : Int) < ((List.length x1 : Nat) : Int), True] gamOK hT mixed h (by kernel_rfl) ⟨(by refine ⟨?_, ?_⟩ <;> (first | omega | (simp only [List.length_append, List.length_cons, List.length_nil, List.length_set, List.length_take, List.length_drop, List.length_replicate, List.length_map, Nat.min_def]; omega) | (simp; done) | (simp; omega) | done)), (by refine ⟨?_, ?_⟩ <;> (first | omega | (simp only [List.length_append, List.length_cons, List.length_nil, List.length_set, List.length_take, List.length_drop, List.length_replicate, List.length_map, Nat.min_def]; omega) | (simp; done) | (simp; omega) | done)), trivial, trivial⟩ ?_
      intro a w h
      refine then_normal ?_
      refine at_test (!((Sh.eqB s22) (x0.getD i []) (x1.getD i []))) h (by kernel_rfl) (fun h3 => ?_) (fun h3 => ?_)
      · replace h3 : ((Sh.eqB s22) (x0.getD i []) (x1.getD i [])) = false := notT h3
        refine wp_seq ?_
        refine at_regq (T := S_spec_EqualMatrices_tab) [] { ts := [0, 1, 4, 5], os := [] } [] gamOK hT h (by kernel_rfl) trivial ?_
        intro a w h
        refine then_normal ?_
        refine wp_ret ?_
        refine in_ret ?_
        refine then_ret ?_
        refine then_ret ?_
        refine in_ret ?_
        refine then_ret ?_
        exact at_return (S := S_spec_EqualMatrices) (x := (x0, x1, ())) (false, ()) [] h (by kernel_rfl) trivial (congrArg (fun z => (z, ())) (show (false) = (Sh.eqB s80) x0 x1 from by (show _ = Sh.eqB s80 x0 x1; first | exact (Sh.eqB_ne (fun e => by subst e; simp_all [Sh.eqB_self])).symm | (have e := hok0.2; rw [take_all (by omega), take_all (by omega)] at e; exact ((Sh.eqB_iff s80).2 e).symm))))
      · replace h3 : ((Sh.eqB s22) (x0.getD i []) (x1.getD i [])) = true := notF h3
        refine wp_skip ?_
        refine in_normal ?_
        refine then_normal ?_
        refine at_regq (T := S_spec_EqualMatrices_tab) [{}, { nw := true }] { ts := [0, 1, 4, 5], os := [] } [I64 (((i : Nat) : Int) + 1)] gamOK hT h (by kernel_rfl) ⟨⟨by first | omega | (simp only [List.length_append, List.length_cons, List.length_nil, List.length_set, List.length_take, List.length_drop, List.length_replicate, List.length_map, Nat.min_def]; omega) | (simp; done) | (simp; omega) | done, by first | omega | (simp only [List.length_append, List.length_cons, List.length_nil, List.length_set, List.length_take, List.length_drop, List.length_replicate, List.length_map, Nat.min_def]; omega) | (simp; done) | (simp; omega) | done⟩, trivial⟩ ?_
        intro a w h
        replace h := at_out (σ' := ⟨[(0, aF s22 x0), (1, aF s22 x1), (4, aB false), (5, aI (((i : Nat) : Int) + 1))], []⟩) { ts := [0, 1, 4, 5], os := [] } h (by kernel_rfl)
        exact ⟨i + 1, at_eq h (st_congr1 (fun (d0 : Int) => (⟨[(0, aF s22 x0), (1, aF s22 x1), (4, aB false), (5, aI d0)], []⟩ : St)) (show (((i : Nat) : Int) + 1 : Int) = (((i + 1) : Nat) : Int) from by first | with_reducible rfl | (omega) | rfl)), (by exact ⟨by omega, eqTo_step (z := []) (by omega) (by omega) hok0.2 (Sh.of_eqB (by assumption))⟩), (by omega)⟩
    · replace h2 : ¬ (((i : Nat) : Int) < ((List.length x0 : Nat) : Int)) := of_decide_eq_false h2
      refine wp_exit ?_
      refine then_exit ?_
      refine then_exit ?_
      refine in_hit ?_
      refine then_normal ?_
      refine wp_seq ?_
      refine at_regq (T := S_spec_EqualMatrices_tab) [] { ts := [4], os := [] } [] gamOK hT h (by kernel_rfl) trivial ?_
      intro a w h
      refine then_normal ?_
      refine wp_ret ?_
      exact at_return (S := S_spec_EqualMatrices) (x := (x0, x1, ())) (true, ()) [] h (by kernel_rfl) trivial (congrArg (fun z => (z, ())) (show (true) = (Sh.eqB s80) x0 x1 from by (show _ = Sh.eqB s80 x0 x1; first | exact (Sh.eqB_ne (fun e => by subst e; simp_all [Sh.eqB_self])).symm | (have e := hok0.2; rw [take_all (by omega), take_all (by omega)] at e; exact ((Sh.eqB_iff s80).2 e).symm))))

def S_impl_EqualMatrices_1 : Sum := { fid := 231, dom := [s22, s22], cod := [(.bool 4)], dp := true, fz := false, pre := fun x => True, g := fun x => (((Sh.eqB s22) x.1 x.2.1), ()) }
def S_impl_EqualMatrices_1_tab : List (Nat × Sum) := [(93, S_slices_Equal_S_int_int_)]
theorem S_impl_EqualMatrices_1_ok : FnOK Try.prog 231 S_impl_EqualMatrices_1 := by
  refine at_enter 8 (fun x => ⟨[(0, aF (.int 3) x.1), (1, aF (.int 3) x.2.1)], []⟩) Try.func231 rfl (by kernel_rfl) (fun x => rfl) ?_
  rintro w0 Z0 ⟨x0, x1, u⟩ a w
  revert x0 x1
  intro (x0 : (List Int)) (x1 : (List Int)) hpre hlens h
  replace h : At w0 Z0 [] 8 ⟨[(0, aF (.int 3) x0), (1, aF (.int 3) x1)], []⟩ a w := h
  have hl1 : List.length x0 ≤ 9223372036854775807 := hlens.1.1
  have hl2 : List.length x1 ≤ 9223372036854775807 := hlens.2.1.1
  have hT : TabOK Try.prog S_impl_EqualMatrices_1_tab := (.cons S_slices_Equal_S_int_int__ok .nil)
  refine wp_seq ?_
  refine at_regq (T := S_impl_EqualMatrices_1_tab) [] { ts := [0, 1, 4], os := [] } [] gamOK hT h (by kernel_rfl) trivial ?_
  intro a w h
  refine then_normal ?_
  refine wp_seq ?_
  refine at_regq (T := S_impl_EqualMatrices_1_tab) [] { ts := [4], os := [] } [True] gamOK hT h (by kernel_rfl) ⟨trivial, trivial⟩ ?_
  intro a w h
  refine then_normal ?_
  refine wp_ret ?_
  exact at_return (S := S_impl_EqualMatrices_1) (x := (x0, x1, ())) (((Sh.eqB s22) x0 x1), ()) [] h (by kernel_rfl) trivial (congrArg (fun z => (z, ())) (show (((Sh.eqB s22) x0 x1)) = (Sh.eqB s22) x0 x1 from by rfl))

def D_slices_EqualFunc_S_S_int_S_S_int_S_int_S_int__EqualMatrices_1 := (fun (xs ys : List (List Int)) (_ : Unit) => eqF (Sh.eqB s22) xs ys)
def S_slices_EqualFunc_S_S_int_S_S_int_S_int_S_int__EqualMatrices_1 : Sum := { fid := 230, dom := [s80, s80, (.fn0 231)], cod := [(.bool 4)], dp := true, fz := false, pre := fun x => True, g := fun x => ((D_slices_EqualFunc_S_S_int_S_S_int_S_int_S_int__EqualMatrices_1 x.1 x.2.1 x.2.2.1), ()) }
def S_slices_EqualFunc_S_S_int_S_S_int_S_int_S_int__EqualMatrices_1_tab : List (Nat × Sum) := [(231, S_impl_EqualMatrices_1)]
theorem S_slices_EqualFunc_S_S_int_S_S_int_S_int_S_int__EqualMatrices_1_ok : FnOK Try.prog 230 S_slices_EqualFunc_S_S_int_S_S_int_S_int_S_int__EqualMatrices_1 := by
  refine at_enter 32 (fun x => ⟨[(0, aF s22 x.1), (1, aF s22 x.2.1), (2, .p (.c (.cl 231 .cnil)))], []⟩) Try.func230 rfl (by kernel_rfl) (fun x => rfl) ?_
  rintro w0 Z0 ⟨x0, x1, x2, u⟩ a w
  revert x0 x1 x2
  intro (x0 : (List (List Int))) (x1 : (List (List Int))) (x2 : Unit) hpre hlens h
  replace h : At w0 Z0 [] 32 ⟨[(0, aF s22 x0), (1, aF s22 x1), (2, .p (.c (.cl 231 .cnil)))], []⟩ a w := h
  have hl1 : List.length x0 ≤ 9223372036854775807 := hlens.1.1
  have hl2 : List.length x1 ≤ 9223372036854775807 := hlens.2.1.1
  have hT : TabOK Try.prog S_slices_EqualFunc_S_S_int_S_S_int_S_int_S_int__EqualMatrices_1_tab := (.cons S_impl_EqualMatrices_1_ok .nil)
  refine wp_seq ?_
  refine at_regq (T := S_slices_EqualFunc_S_S_int_S_S_int_S_int_S_int__EqualMatrices_1_tab) [] { ts := [0, 1, 2, 6], os := [] } [] gamOK hT h (by kernel_rfl) trivial ?_
  intro a w h
  refine then_normal ?_
  refine wp_seq ?_
  refine wp_seq ?_
  refine at_regq (T := S_slices_EqualFunc_S_S_int_S_S_int_S_int_S_int__EqualMatrices_1_tab) [] { ts := [0, 1, 2, 6, 14], os := [] } [] gamOK hT h (by kernel_rfl) trivial ?_
  intro a w h
  refine then_normal ?_
  refine at_test (!decide (((List.length x0 : Nat) : Int) = ((List.length x1 : Nat) : Int))) h (by kernel_rfl) (fun h1 => ?_) (fun h1 => ?_)
  · replace h1 : ¬ (((List.length x0 : Nat) : Int) = ((List.length x1 : Nat) : Int)) := of_decide_eq_false (notT h1)
    refine wp_seq ?_
    refine at_regq (T := S_slices_EqualFunc_S_S_int_S_S_int_S_int_S_int__EqualMatrices_1_tab) [] { ts := [0, 1, 2, 6], os := [] } [] gamOK hT h (by kernel_rfl) trivial ?_
    intro a w h
    refine then_normal ?_
    refine wp_ret ?_
    refine then_ret ?_
    exact at_return (S := S_slices_EqualFunc_S_S_int_S_S_int_S_int_S_int__EqualMatrices_1) (x := (x0, x1, x2, ())) (false, ()) [] h (by kernel_rfl) trivial (congrArg (fun z => (z, ())) (show (false) = D_slices_EqualFunc_S_S_int_S_S_int_S_int_S_int__EqualMatrices_1 x0 x1 x2 from by unfold D_slices_EqualFunc_S_S_int_S_S_int_S_int_S_int__EqualMatrices_1; exact (eqF_len (fun e => h1 (by rw [e]))).symm))
  · replace h1 : ((List.length x0 : Nat) : Int) = ((List.length x1 : Nat) : Int) := of_decide_eq_true (notF h1)
    refine wp_skip ?_
    refine then_normal ?_
    refine wp_seq ?_
    refine wp_seq ?_
    refine at_regq (T := S_slices_EqualFunc_S_S_int_S_S_int_S_int_S_int__EqualMatrices_1_tab) [] { ts := [1, 2, 6, 15, 16, 17], os := [] } [] gamOK hT h (by kernel_rfl) trivial ?_
    intro a w h
    refine then_normal ?_
    refine wp_block ?_
    replace h := at_out (σ' := ⟨[(1, aF s22 x1), (2, .p (.c (.cl 231 .cnil))), (6, aB false), (15, aF s22 x0), (16, aI ((List.length x0 : Nat) : Int)), (17, aI 0)], []⟩) { ts := [1, 2, 6, 15, 16, 17], os := [] } h (by kernel_rfl)
    refine at_loop (fun i : Nat => (⟨[(1, aF s22 x1), (2, .p (.c (.cl 231 .cnil))), (6, aB false), (15, aF s22 x0), (16, aI ((List.length x0 : Nat) : Int)), (17, aI ((i : Nat) : Int))], []⟩ : St)) (fun i => (i ≤ List.length x0 ∧ allTo2 (Sh.eqB s22) x0 x1 [] [] i)) (fun i => List.length x0 - i) (0) h (st_congr1 (fun (d0 : Int) => (⟨[(1, aF s22 x1), (2, .p (.c (.cl 231 .cnil))), (6, aB false), (15, aF s22 x0), (16, aI ((List.length x0 : Nat) : Int)), (17, aI d0)], []⟩ : St)) (show (0 : Int) = (((0) : Nat) : Int) from by first | with_reducible rfl | (rfl) | rfl)) (by exact ⟨Nat.zero_le _, allTo2_zero⟩) ?_
    intro i a w hok0 h
    refine wp_seq ?_
    refine at_reg (T := S_slices_EqualFunc_S_S_int_S_S_int_S_int_S_int__EqualMatrices_1_tab) [] { ts := [1, 2, 6, 15, 16, 17, 18], os := [] } ⟨[(1, aF s22 x1), (2, .p (.c (.cl 231 .cnil))), (6, aB false), (15, aF s22 x0), (16, aI ((List.length x0 : Nat) : Int)), (17, aI ((i : Nat) : Int)), (18, aB (decide (((i : Nat) : Int) < ((List.length x0 : Nat) : Int))))], []⟩ [] gamOK hT h (by kernel_rfl) trivial ?_
    intro a w h
    refine then_normal ?_
    refine wp_seq ?_
    refine at_test (decide (((i : Nat) : Int) < ((List.length x0 : Nat) : Int))) h (by kernel_rfl) (fun h2 => ?_) (fun h2 => ?_)
    · replace h2 : ((i : Nat) : Int) < ((List.length x0 : Nat) : Int) := of_decide_eq_true h2
      refine wp_skip ?_
      refine then_normal ?_
      refine wp_seq ?_
      refine wp_block ?_
      refine wp_seq ?_
      refine at_regq (T := S_slices_EqualFunc_S_S_int_S_S_int_S_int_S_int__EqualMatrices_1_tab) [] { ts := [1, 2, 6, 7, 8, 15, 16, 17], os := [] } [(0 : Int) ≤ ((i : Nat) : Int) ∧ ((i : Nat) : Int) < ((List.length x0 : Nat) : Int)] gamOK hT h (by kernel_rfl) ⟨(by refine ⟨?_, ?_⟩ <;> (first | omega | (simp only [List.length_append, List.length_cons, List.length_nil, List.length_set, List.length_take, List.length_drop, List.length_replicate, List.length_map, Nat.min_def]; omega) | (simp; done) | (simp; omega) | done)), trivial⟩ ?_
      intro a w h
      refine then_normal ?_
      refine wp_seq ?_
      refine at_regq (T := S_slices_EqualFunc_S_S_int_S_S_int_S_int_S_int__EqualMatrices_1_tab) [] { ts := [1, 2, 6, 8, 9, 15, 16, 17], os := [] } [(0 : Int) ≤ ((i : Nat) : Int) ∧ ((i : Nat) : Int) < ((List.length x1 : Nat) : Int)] gamOK hT h (by kernel_rfl) ⟨(by refine ⟨?_, ?_⟩ <;> (first | omega | (simp only [List.length_append, List.length_cons, List.length_nil, List.length_set, List.length_take, List.length_drop, List.length_replicate, List.length_map, Nat.min_def]; omega) | (simp; done) | (simp; omega) | done)), trivial⟩ ?_
      intro a w h
      refine then_normal ?_
      refine wp_seq ?_
      refine at_regq (T := S_slices_EqualFunc_S_S_int_S_S_int_S_int_S_int__EqualMatrices_1_tab) [] { ts := [1, 2, 6, 15, 16, 17, 30], os := [] } [True] gamOK hT h (by kernel_rfl) ⟨trivial, trivial⟩ ?_
      intro a w h
      refine then_normal ?_
      refine at_test (!((Sh.eqB s22) (x0.getD i []) (x1.getD i []))) h (by kernel_rfl) (fun h3 => ?_) (fun h3 => ?_)
      · replace h3 : ((Sh.eqB s22) (x0.getD i []) (x1.getD i [])) = false := notT h3
        refine wp_seq ?_
        refine at_reg (T := S_slices_EqualFunc_S_S_int_S_S_int_S_int_S_int__EqualMatrices_1_tab) [] { ts := [1, 2, 6, 15, 16, 17], os := [] } ⟨[(1, aF s22 x1), (2, .p (.c (.cl 231 .cnil))), (6, aB false), (15, aF s22 x0), (16, aI ((List.length x0 : Nat) : Int)), (17, aI ((i : Nat) : Int))], []⟩ [] gamOK hT h (by kernel_rfl) trivial ?_
        intro a w h
        refine then_normal ?_
        refine wp_ret ?_
        refine in_ret ?_
        refine then_ret ?_
        refine then_ret ?_
        refine in_ret ?_
        refine then_ret ?_
        exact at_return (S := S_slices_EqualFunc_S_S_int_S_S_int_S_int_S_int__EqualMatrices_1) (x := (x0, x1, x2, ())) (false, ()) [] h (by kernel_rfl) trivial (congrArg (fun z => (z, ())) (show (false) = D_slices_EqualFunc_S_S_int_S_S_int_S_int_S_int__EqualMatrices_1 x0 x1 x2 from by unfold D_slices_EqualFunc_S_S_int_S_S_int_S_int_S_int__EqualMatrices_1; exact (eqF_at (z := []) (y := []) (i := i) (by omega) (by omega) h3).symm))
      · replace h3 : ((Sh.eqB s22) (x0.getD i []) (x1.getD i [])) = true := notF h3
        refine wp_skip ?_
        refine in_normal ?_
        refine then_normal ?_
        refine at_reg (T := S_slices_EqualFunc_S_S_int_S_S_int_S_int_S_int__EqualMatrices_1_tab) [{ nw := true }] { ts := [1, 2, 6, 15, 16, 17], os := [] } ⟨[(1, aF s22 x1), (2, .p (.c (.cl 231 .cnil))), (6, aB false), (15, aF s22 x0), (16, aI ((List.length x0 : Nat) : Int)), (17, aI (((i : Nat) : Int) + 1))], []⟩ [I64 (((i : Nat) : Int) + 1)] gamOK hT h (by kernel_rfl) ⟨⟨by first | omega | (simp only [List.length_append, List.length_cons, List.length_nil, List.length_set, List.length_take, List.length_drop, List.length_replicate, List.length_map, Nat.min_def]; omega) | (simp; done) | (simp; omega) | done, by first | omega | (simp only [List.length_append, List.length_cons, List.length_nil, List.length_set, List.length_take, List.length_drop, List.length_replicate, List.length_map, Nat.min_def]; omega) | (simp; done) | (simp; omega) | done⟩, trivial⟩ ?_
        intro a w h
        replace h := at_out (σ' := ⟨[(1, aF s22 x1), (2, .p (.c (.cl 231 .cnil))), (6, aB false), (15, aF s22 x0), (16, aI ((List.length x0 : Nat) : Int)), (17, aI (((i : Nat) : Int) + 1))], []⟩) { ts := [1, 2, 6, 15, 16, 17], os := [] } h (by kernel_rfl)
        exact ⟨i + 1, at_eq h (st_congr1 (fun (d0 : Int) => (⟨[(1, aF s22 x1), (2, .p (.c (.cl 231 .cnil))), (6, aB false), (15, aF s22 x0), (16, aI ((List.length x0 : Nat) : Int)), (17, aI d0)], []⟩ : St)) (show (((i : Nat) : Int) + 1 : Int) = (((i + 1) : Nat) : Int) from by first | with_reducible rfl | (omega) | rfl)), (by exact ⟨by omega, allTo2_succ hok0.2 h3⟩), (by omega)⟩
    · replace h2 : ¬ (((i : Nat) : Int) < ((List.length x0 : Nat) : Int)) := of_decide_eq_false h2
      refine wp_exit ?_
      refine then_exit ?_
      refine then_exit ?_
      refine in_hit ?_
      refine then_normal ?_
      refine wp_seq ?_
      refine at_regq (T := S_slices_EqualFunc_S_S_int_S_S_int_S_int_S_int__EqualMatrices_1_tab) [] { ts := [6], os := [] } [] gamOK hT h (by kernel_rfl) trivial ?_
      intro a w h
      refine then_normal ?_
      refine wp_ret ?_
      exact at_return (S := S_slices_EqualFunc_S_S_int_S_S_int_S_int_S_int__EqualMatrices_1) (x := (x0, x1, x2, ())) (true, ()) [] h (by kernel_rfl) trivial (congrArg (fun z => (z, ())) (show (true) = D_slices_EqualFunc_S_S_int_S_S_int_S_int_S_int__EqualMatrices_1 x0 x1 x2 from by unfold D_slices_EqualFunc_S_S_int_S_S_int_S_int_S_int__EqualMatrices_1; exact (eqF_all (z := []) (y := []) (i := i) (by omega) (by omega) hok0.2).symm))

def S_impl_EqualMatrices : Sum := { fid := 174, dom := [s80, s80], cod := [(.bool 4)], dp := true, fz := false, pre := fun x => True, g := fun x => (((Sh.eqB s80) x.1 x.2.1), ()) }
def S_impl_EqualMatrices_tab : List (Nat × Sum) := [(100008, S_slices_EqualFunc_S_S_int_S_S_int_S_int_S_int__EqualMatrices_1)]
theorem S_impl_EqualMatrices_ok : FnOK Try.prog 174 S_impl_EqualMatrices := by
  refine at_enter 8 (fun x => ⟨[(0, aF s22 x.1), (1, aF s22 x.2.1)], []⟩) Try.func174 rfl (by kernel_rfl) (fun x => rfl) ?_
  rintro w0 Z0 ⟨x0, x1, u⟩ a w
  revert x0 x1
  intro (x0 : (List (List Int))) (x1 : (List (List Int))) hpre hlens h
  replace h : At w0 Z0 [] 8 ⟨[(0, aF s22 x0), (1, aF s22 x1)], []⟩ a w := h
  have hl1 : List.length x0 ≤ 9223372036854775807 := hlens.1.1
  have hl2 : List.length x1 ≤ 9223372036854775807 := hlens.2.1.1
  have hT : TabOK Try.prog S_impl_EqualMatrices_tab := (.cons S_slices_EqualFunc_S_S_int_S_S_int_S_int_S_int__EqualMatrices_1_ok .nil)
  refine wp_seq ?_
  refine at_regq (T := S_impl_EqualMatrices_tab) [] { ts := [0, 1, 4], os := [] } [] gamOK hT h (by kernel_rfl) trivial ?_
  intro a w h
  refine then_normal ?_
  refine wp_seq ?_
  refine at_regq (T := S_impl_EqualMatrices_tab) [{}, {}, { key := some 100008 }] { ts := [4], os := [] } [True] gamOK hT h (by kernel_rfl) ⟨trivial, trivial⟩ ?_
  intro a w h
  refine then_normal ?_
  refine wp_ret ?_
  exact at_return (S := S_impl_EqualMatrices) (x := (x0, x1, ())) ((D_slices_EqualFunc_S_S_int_S_S_int_S_int_S_int__EqualMatrices_1 x0 x1 ()), ()) [] h (by kernel_rfl) trivial (congrArg (fun z => (z, ())) (show ((D_slices_EqualFunc_S_S_int_S_S_int_S_int_S_int__EqualMatrices_1 x0 x1 ())) = (Sh.eqB s80) x0 x1 from by (show _ = Sh.eqB s80 x0 x1; simp_all [Sh.eqB, eqF_eqL, D_slices_EqualFunc_S_S_int_S_S_int_S_int_S_int__EqualMatrices_1])))

def S_impl_EqualGenerations : Sum := { fid := 97, dom := [s86, s86], cod := [(.bool 4)], dp := true, fz := false, pre := fun x => True, g := fun x => (((Sh.eqB s86) x.1 x.2.1), ()) }
def S_impl_EqualGenerations_tab : List (Nat × Sum) := [(174, S_impl_EqualMatrices)]
theorem S_impl_EqualGenerations_ok : FnOK Try.prog 97 S_impl_EqualGenerations := by
  refine at_enter 17 (fun x => ⟨[(0, aG [cI x.1.1, .ro s22 x.1.2]), (1, aG [cI x.2.1.1, .ro s22 x.2.1.2])], []⟩) Try.func97 rfl (by kernel_rfl) (fun x => rfl) ?_
  rintro w0 Z0 ⟨x0, x1, u⟩ a w
  revert x0 x1
  intro (x0 : T86) (x1 : T86) hpre hlens h
  replace h : At w0 Z0 [] 17 ⟨[(0, aG [cI x0.1, .ro s22 x0.2]), (1, aG [cI x1.1, .ro s22 x1.2])], []⟩ a w := h
  have hl1 : List.length x0.2 ≤ 9223372036854775807 := hlens.1.2.1
  have hl2 : List.length x1.2 ≤ 9223372036854775807 := hlens.2.1.2.1
  have hT : TabOK Try.prog S_impl_EqualGenerations_tab := (.cons S_impl_EqualMatrices_ok .nil)
  refine wp_seq ?_
  refine at_regq (T := S_impl_EqualGenerations_tab) [{ ids := [1] }, { ids := [2] }] { ts := [2, 3, 4], os := [1, 2] } [] gamOK hT h (by kernel_rfl) trivial ?_
  intro a w h
  refine then_normal ?_
  refine wp_seq ?_
  by_cases h1 : x0.1 = x1.1
  · skip
    refine at_regq (T := S_impl_EqualGenerations_tab) [{}, {}, {}, {}, { hint := some (aB true) }] { ts := [4], os := [] } [(AV.p (.c (.v (.bool (decide (x0.1 = x1.1))))) = AV.p (.c (.v (.bool true)))), True] gamOK hT h (by kernel_rfl) ⟨hint_bool (decide_eq_true h1), trivial, trivial⟩ ?_
    intro a w h
    refine then_normal ?_
    refine wp_ret ?_
    exact at_return (S := S_impl_EqualGenerations) (x := (x0, x1, ())) (((Sh.eqB s80) x0.2 x1.2), ()) [] h (by kernel_rfl) trivial (congrArg (fun z => (z, ())) (show (((Sh.eqB s80) x0.2 x1.2)) = (Sh.eqB s86) x0 x1 from by (show _ = Sh.eqB s86 x0 x1; simp_all [Sh.eqB, eqF_eqL])))
  · skip
    refine at_regq (T := S_impl_EqualGenerations_tab) [{}, {}, {}, {}, { hint := some (aB false) }] { ts := [4], os := [] } [(AV.p (.c (.v (.bool (decide (x0.1 = x1.1))))) = AV.p (.c (.v (.bool false))))] gamOK hT h (by kernel_rfl) ⟨hint_bool (decide_eq_false h1), trivial⟩ ?_
    intro a w h
    refine then_normal ?_
    refine wp_ret ?_
    exact at_return (S := S_impl_EqualGenerations) (x := (x0, x1, ())) (false, ()) [] h (by kernel_rfl) trivial (congrArg (fun z => (z, ())) (show (false) = (Sh.eqB s86) x0 x1 from by (show _ = Sh.eqB s86 x0 x1; simp_all [Sh.eqB, eqF_eqL])))

def S_spec_EqualGenerations : Sum := { fid := 90, dom := [s86, s86], cod := [(.bool 4)], dp := true, fz := false, pre := fun x => True, g := fun x => (((Sh.eqB s86) x.1 x.2.1), ()) }
def S_spec_EqualGenerations_tab : List (Nat × Sum) := [(171, S_spec_EqualMatrices)]
theorem S_spec_EqualGenerations_ok : FnOK Try.prog 90 S_spec_EqualGenerations := by
  refine at_enter 17 (fun x => ⟨[(0, aG [cI x.1.1, .ro s22 x.1.2]), (1, aG [cI x.2.1.1, .ro s22 x.2.1.2])], []⟩) Try.func90 rfl (by kernel_rfl) (fun x => rfl) ?_
  rintro w0 Z0 ⟨x0, x1, u⟩ a w
  revert x0 x1
  intro (x0 : T86) (x1 : T86) hpre hlens h
  replace h : At w0 Z0 [] 17 ⟨[(0, aG [cI x0.1, .ro s22 x0.2]), (1, aG [cI x1.1, .ro s22 x1.2])], []⟩ a w := h
  have hl1 : List.length x0.2 ≤ 9223372036854775807 := hlens.1.2.1
  have hl2 : List.length x1.2 ≤ 9223372036854775807 := hlens.2.1.2.1
  have hT : TabOK Try.prog S_spec_EqualGenerations_tab := (.cons S_spec_EqualMatrices_ok .nil)
  refine wp_seq ?_
  refine at_regq (T := S_spec_EqualGenerations_tab) [{ ids := [1] }, { ids := [2] }] { ts := [2, 3, 4], os := [1, 2] } [] gamOK hT h (by kernel_rfl) trivial ?_
  intro a w h
  refine then_normal ?_
  refine wp_seq ?_
  by_cases h1 : x0.1 = x1.1
  · skip
    refine at_regq (T := S_spec_EqualGenerations_tab) [{}, {}, {}, {}, { hint := some (aB true) }] { ts := [4], os := [] } [(AV.p (.c (.v (.bool (decide (x0.1 = x1.1))))) = AV.p (.c (.v (.bool true)))), True] gamOK hT h (by kernel_rfl) ⟨hint_bool (decide_eq_true h1), trivial, trivial⟩ ?_
    intro a w h
    refine then_normal ?_
    refine wp_ret ?_
    exact at_return (S := S_spec_EqualGenerations) (x := (x0, x1, ())) (((Sh.eqB s80) x0.2 x1.2), ()) [] h (by kernel_rfl) trivial (congrArg (fun z => (z, ())) (show (((Sh.eqB s80) x0.2 x1.2)) = (Sh.eqB s86) x0 x1 from by (show _ = Sh.eqB s86 x0 x1; simp_all [Sh.eqB, eqF_eqL])))
  · skip
    refine at_regq (T := S_spec_EqualGenerations_tab) [{}, {}, {}, {}, { hint := some (aB false) }] { ts := [4], os := [] } [(AV.p (.c (.v (.bool (decide (x0.1 = x1.1))))) = AV.p (.c (.v (.bool false))))] gamOK hT h (by kernel_rfl) ⟨hint_bool (decide_eq_false h1), trivial⟩ ?_
    intro a w h
    refine then_normal ?_
    refine wp_ret ?_
    exact at_return (S := S_spec_EqualGenerations) (x := (x0, x1, ())) (false, ()) [] h (by kernel_rfl) trivial (congrArg (fun z => (z, ())) (show (false) = (Sh.eqB s86) x0 x1 from by (show _ = Sh.eqB s86 x0 x1; simp_all [Sh.eqB, eqF_eqL])))

def D_slices_EqualFunc_S_impl_Generation_S_impl_Generation_impl_Generation_impl_Generation__EqualGenerations := (fun (xs ys : List T86) (_ : Unit) => eqF (Sh.eqB s86) xs ys)
def S_slices_EqualFunc_S_impl_Generation_S_impl_Generation_impl_Generation_impl_Generation__EqualGenerations : Sum := { fid := 96, dom := [s30, s30, (.fn0 97)], cod := [(.bool 4)], dp := true, fz := false, pre := fun x => True, g := fun x => ((D_slices_EqualFunc_S_impl_Generation_S_impl_Generation_impl_Generation_impl_Generation__EqualGenerations x.1 x.2.1 x.2.2.1), ()) }
def S_slices_EqualFunc_S_impl_Generation_S_impl_Generation_impl_Generation_impl_Generation__EqualGenerations_tab : List (Nat × Sum) := [(97, S_impl_EqualGenerations)]
theorem S_slices_EqualFunc_S_impl_Generation_S_impl_Generation_impl_Generation_impl_Generation__EqualGenerations_ok : FnOK Try.prog 96 S_slices_EqualFunc_S_impl_Generation_S_impl_Generation_impl_Generation_impl_Generation__EqualGenerations := by
  refine at_enter 32 (fun x => ⟨[(0, aF s86 x.1), (1, aF s86 x.2.1), (2, .p (.c (.cl 97 .cnil)))], []⟩) Try.func96 rfl (by kernel_rfl) (fun x => rfl) ?_
  rintro w0 Z0 ⟨x0, x1, x2, u⟩ a w
  revert x0 x1 x2
  intro (x0 : (List T86)) (x1 : (List T86)) (x2 : Unit) hpre hlens h
  replace h : At w0 Z0 [] 32 ⟨[(0, aF s86 x0), (1, aF s86 x1), (2, .p (.c (.cl 97 .cnil)))], []⟩ a w := h
  have hl1 : List.length x0 ≤ 9223372036854775807 := hlens.1.1
  have hl2 : List.length x1 ≤ 9223372036854775807 := hlens.2.1.1
  have hT : TabOK Try.prog S_slices_EqualFunc_S_impl_Generation_S_impl_Generation_impl_Generation_impl_Generation__EqualGenerations_tab := (.cons S_impl_EqualGenerations_ok .nil)
  refine wp_seq ?_
  refine at_regq (T := S_slices_EqualFunc_S_impl_Generation_S_impl_Generation_impl_Generation_impl_Generation__EqualGenerations_tab) [] { ts := [0, 1, 2, 6], os := [] } [] gamOK hT h (by kernel_rfl) trivial ?_
  intro a w h
  refine then_normal ?_
  refine wp_seq ?_
  refine wp_seq ?_
  refine at_regq (T := S_slices_EqualFunc_S_impl_Generation_S_impl_Generation_impl_Generation_impl_Generation__EqualGenerations_tab) [] { ts := [0, 1, 2, 6, 14], os := [] } [] gamOK hT h (by kernel_rfl) trivial ?_
  intro a w h
  refine then_normal ?_
  refine at_test (!decide (((List.length x0 : Nat) : Int) = ((List.length x1 : Nat) : Int))) h (by kernel_rfl) (fun h1 => ?_) (fun h1 => ?_)
  · replace h1 : ¬ (((List.length x0 : Nat) : Int) = ((List.length x1 : Nat) : Int)) := of_decide_eq_false (notT h1)
    refine wp_seq ?_
    refine at_regq (T := S_slices_EqualFunc_S_impl_Generation_S_impl_Generation_impl_Generation_impl_Generation__EqualGenerations_tab) [] { ts := [0, 1, 2, 6], os := [] } [] gamOK hT h (by kernel_rfl) trivial ?_
    intro a w h
    refine then_normal ?_
    refine wp_ret ?_
    refine then_ret ?_
    exact at_return (S := S_slices_EqualFunc_S_impl_Generation_S_impl_Generation_impl_Generation_impl_Generation__EqualGenerations) (x := (x0, x1, x2, ())) (false, ()) [] h (by kernel_rfl) trivial (congrArg (fun z => (z, ())) (show (false) = D_slices_EqualFunc_S_impl_Generation_S_impl_Generation_impl_Generation_impl_Generation__EqualGenerations x0 x1 x2 from by unfold D_slices_EqualFunc_S_impl_Generation_S_impl_Generation_impl_Generation_impl_Generation__EqualGenerations; exact (eqF_len (fun e => h1 (by rw [e]))).symm))
  · replace h1 : ((List.length x0 : Nat) : Int) = ((List.length x1 : Nat) : Int) := of_decide_eq_true (notF h1)
    refine wp_skip ?_
    refine then_normal ?_
    refine wp_seq ?_
    refine wp_seq ?_
    refine at_regq (T := S_slices_EqualFunc_S_impl_Generation_S_impl_Generation_impl_Generation_impl_Generation__EqualGenerations_tab) [] { ts := [1, 2, 6, 15, 16, 17], os := [] } [] gamOK hT h (by kernel_rfl) trivial ?_
    intro a w h
    refine then_normal ?_
    refine wp_block ?_
    replace h := at_out (σ' := ⟨[(1, aF s86 x1), (2, .p (.c (.cl 97 .cnil))), (6, aB false), (15, aF s86 x0), (16, aI ((List.length x0 : Nat) : Int)), (17, aI 0)], []⟩) { ts := [1, 2, 6, 15, 16, 17], os := [] } h (by kernel_rfl)
    refine at_loop (fun i : Nat => (⟨[(1, aF s86 x1), (2, .p (.c (.cl 97 .cnil))), (6, aB false), (15, aF s86 x0), (16, aI ((List.length x0 : Nat) : Int)), (17, aI ((i : Nat) : Int))], []⟩ : St)) (fun i => (i ≤ List.length x0 ∧ allTo2 (Sh.eqB s86) x0 x1 (0, []) (0, []) i)) (fun i => List.length x0 - i) (0) h (st_congr1 (fun (d0 : Int) => (⟨[(1, aF s86 x1), (2, .p (.c (.cl 97 .cnil))), (6, aB false), (15, aF s86 x0), (16, aI ((List.length x0 : Nat) : Int)), (17, aI d0)], []⟩ : St)) (show (0 : Int) = (((0) : Nat) : Int) from by first | with_reducible rfl | (rfl) | rfl)) (by exact ⟨Nat.zero_le _, allTo2_zero⟩) ?_
    intro i a w hok0 h
    refine wp_seq ?_
    refine at_reg (T := S_slices_EqualFunc_S_impl_Generation_S_impl_Generation_impl_Generation_impl_Generation__EqualGenerations_tab) [] { ts := [1, 2, 6, 15, 16, 17, 18], os := [] } ⟨[(1, aF s86 x1), (2, .p (.c (.cl 97 .cnil))), (6, aB false), (15, aF s86 x0), (16, aI ((List.length x0 : Nat) : Int)), (17, aI ((i : Nat) : Int)), (18, aB (decide (((i : Nat) : Int) < ((List.length x0 : Nat) : Int))))], []⟩ [] gamOK hT h (by kernel_rfl) trivial ?_
    intro a w h
    refine then_normal ?_
    refine wp_seq ?_
    refine at_test (decide (((i : Nat) : Int) < ((List.length x0 : Nat) : Int))) h (by kernel_rfl) (fun h2 => ?_) (fun h2 => ?_)
    · replace h2 : ((i : Nat) : Int) < ((List.length x0 : Nat) : Int) := of_decide_eq_true h2
      refine wp_skip ?_
      refine then_normal ?_
      refine wp_seq ?_
      refine wp_block ?_
      refine wp_seq ?_
      refine at_regq (T := S_slices_EqualFunc_S_impl_Generation_S_impl_Generation_impl_Generation_impl_Generation__EqualGenerations_tab) [{}, {}, {}, { ids := [1] }] { ts := [1, 2, 6, 7, 8, 15, 16, 17], os := [1] } [(0 : Int) ≤ ((i : Nat) : Int) ∧ ((i : Nat) : Int) < ((List.length x0 : Nat) : Int)] gamOK hT h (by kernel_rfl) ⟨(by refine ⟨?_, ?_⟩ <;> (first | omega | (simp only [List.length_append, List.length_cons, List.length_nil, List.length_set, List.length_take, List.length_drop, List.length_replicate, List.length_map, Nat.min_def]; omega) | (simp; done) | (simp; omega) | done)), trivial⟩ ?_
      intro a w h
      refine then_normal ?_
      refine wp_seq ?_
      refine at_regq (T := S_slices_EqualFunc_S_impl_Generation_S_impl_Generation_impl_Generation_impl_Generation__EqualGenerations_tab) [{}, {}, {}, {}, { ids := [2] }] { ts := [1, 2, 6, 8, 9, 15, 16, 17], os := [1, 2] } [(0 : Int) ≤ ((i : Nat) : Int) ∧ ((i : Nat) : Int) < ((List.length x1 : Nat) : Int)] gamOK hT h (by kernel_rfl) ⟨(by refine ⟨?_, ?_⟩ <;> (first | omega | (simp only [List.length_append, List.length_cons, List.length_nil, List.length_set, List.length_take, List.length_drop, List.length_replicate, List.length_map, Nat.min_def]; omega) | (simp; done) | (simp; omega) | done)), trivial⟩ ?_
      intro a w h
      refine then_normal ?_
      refine wp_seq ?_
      refine at_regq (T := S_slices_EqualFunc_S_impl_Generation_S_impl_Generation_impl_Generation_impl_Generation__EqualGenerations_tab) [] { ts := [1, 2, 6, 15, 16, 17, 30], os := [] } [True] gamOK hT h (by kernel_rfl) ⟨trivial, trivial⟩ ?_
      intro a w h
      refine then_normal ?_
      refine at_test (!((Sh.eqB s86) (x0.getD i (0, [])) (x1.getD i (0, [])))) h (by kernel_rfl) (fun h3 => ?_) (fun h3 => ?_)
      · replace h3 : ((Sh.eqB s86) (x0.getD i (0, [])) (x1.getD i (0, []))) = false := notT h3
        refine wp_seq ?_
        refine at_reg (T := S_slices_EqualFunc_S_impl_Generation_S_impl_Generation_impl_Generation_impl_Generation__EqualGenerations_tab) [] { ts := [1, 2, 6, 15, 16, 17], os := [] } ⟨[(1, aF s86 x1), (2, .p (.c (.cl 97 .cnil))), (6, aB false), (15, aF s86 x0), (16, aI ((List.length x0 : Nat) : Int)), (17, aI ((i : Nat) : Int))], []⟩ [] gamOK hT h (by kernel_rfl) trivial ?_
        intro a w h
        refine then_normal ?_
        refine wp_ret ?_
        refine in_ret ?_
        refine then_ret ?_
        refine then_ret ?_
        refine in_ret ?_
        refine then_ret ?_
        exact at_return (S := S_slices_EqualFunc_S_impl_Generation_S_impl_Generation_impl_Generation_impl_Generation__EqualGenerations) (x := (x0, x1, x2, ())) (false, ()) [] h (by kernel_rfl) trivial (congrArg (fun z => (z, ())) (show (false) = D_slices_EqualFunc_S_impl_Generation_S_impl_Generation_impl_Generation_impl_Generation__EqualGenerations x0 x1 x2 from by unfold D_slices_EqualFunc_S_impl_Generation_S_impl_Generation_impl_Generation_impl_Generation__EqualGenerations; exact (eqF_at (z := (0, [])) (y := (0, [])) (i := i) (by omega) (by omega) h3).symm))
      · replace h3 : ((Sh.eqB s86) (x0.getD i (0, [])) (x1.getD i (0, []))) = true := notF h3
        refine wp_skip ?_
        refine in_normal ?_
        refine then_normal ?_
        refine at_reg (T := S_slices_EqualFunc_S_impl_Generation_S_impl_Generation_impl_Generation_impl_Generation__EqualGenerations_tab) [{ nw := true }] { ts := [1, 2, 6, 15, 16, 17], os := [] } ⟨[(1, aF s86 x1), (2, .p (.c (.cl 97 .cnil))), (6, aB false), (15, aF s86 x0), (16, aI ((List.length x0 : Nat) : Int)), (17, aI (((i : Nat) : Int) + 1))], []⟩ [I64 (((i : Nat) : Int) + 1)] gamOK hT h (by kernel_rfl) ⟨⟨by first | omega | (simp only [List.length_append, List.length_cons, List.length_nil, List.length_set, List.length_take, List.length_drop, List.length_replicate, List.length_map, Nat.min_def]; omega) | (simp; done) | (simp; omega) | done, by first | omega | (simp only [List.length_append, List.length_cons, List.length_nil, List.length_set, List.length_take, List.length_drop, List.length_replicate, List.length_map, Nat.min_def]; omega) | (simp; done) | (simp; omega) | done⟩, trivial⟩ ?_
        intro a w h
        replace h := at_out (σ' := ⟨[(1, aF s86 x1), (2, .p (.c (.cl 97 .cnil))), (6, aB false), (15, aF s86 x0), (16, aI ((List.length x0 : Nat) : Int)), (17, aI (((i : Nat) : Int) + 1))], []⟩) { ts := [1, 2, 6, 15, 16, 17], os := [] } h (by kernel_rfl)
        exact ⟨i + 1, at_eq h (st_congr1 (fun (d0 : Int) => (⟨[(1, aF s86 x1), (2, .p (.c (.cl 97 .cnil))), (6, aB false), (15, aF s86 x0), (16, aI ((List.length x0 : Nat) : Int)), (17, aI d0)], []⟩ : St)) (show (((i : Nat) : Int) + 1 : Int) = (((i + 1) : Nat) : Int) from by first | with_reducible rfl | (omega) | rfl)), (by exact ⟨by omega, allTo2_succ hok0.2 h3⟩), (by omega)⟩
    · replace h2 : ¬ (((i : Nat) : Int) < ((List.length x0 : Nat) : Int)) := of_decide_eq_false h2
      refine wp_exit ?_
      refine then_exit ?_
      refine then_exit ?_
      refine in_hit ?_
      refine then_normal ?_
      refine wp_seq ?_
      refine at_regq (T := S_slices_EqualFunc_S_impl_Generation_S_impl_Generation_impl_Generation_impl_Generation__EqualGenerations_tab) [] { ts := [6], os := [] } [] gamOK hT h (by kernel_rfl) trivial ?_
      intro a w h
      refine then_normal ?_
      refine wp_ret ?_
      exact at_return (S := S_slices_EqualFunc_S_impl_Generation_S_impl_Generation_impl_Generation_impl_Generation__EqualGenerations) (x := (x0, x1, x2, ())) (true, ()) [] h (by kernel_rfl) trivial (congrArg (fun z => (z, ())) (show (true) = D_slices_EqualFunc_S_impl_Generation_S_impl_Generation_impl_Generation_impl_Generation__EqualGenerations x0 x1 x2 from by unfold D_slices_EqualFunc_S_impl_Generation_S_impl_Generation_impl_Generation_impl_Generation__EqualGenerations; exact (eqF_all (z := (0, [])) (y := (0, [])) (i := i) (by omega) (by omega) hok0.2).symm))

def S_impl_EqualFeedback : Sum := { fid := 134, dom := [s71, s71], cod := [(.bool 4)], dp := true, fz := false, pre := fun x => True, g := fun x => (((Sh.eqB s71) x.1 x.2.1), ()) }
def S_impl_EqualFeedback_tab : List (Nat × Sum) := [(201, S_slices_Equal_S_impl_Feedback_impl_Feedback_)]
theorem S_impl_EqualFeedback_ok : FnOK Try.prog 134 S_impl_EqualFeedback := by
  refine at_enter 10 (fun x => ⟨[(0, aG [.ro s212 x.1]), (1, aG [.ro s212 x.2.1])], []⟩) Try.func134 rfl (by kernel_rfl) (fun x => rfl) ?_
  rintro w0 Z0 ⟨x0, x1, u⟩ a w
  revert x0 x1
  intro (x0 : (List T212)) (x1 : (List T212)) hpre hlens h
  replace h : At w0 Z0 [] 10 ⟨[(0, aG [.ro s212 x0]), (1, aG [.ro s212 x1])], []⟩ a w := h
  have hl1 : List.length x0 ≤ 9223372036854775807 := hlens.1.1
  have hl2 : List.length x1 ≤ 9223372036854775807 := hlens.2.1.1
  have hT : TabOK Try.prog S_impl_EqualFeedback_tab := (.cons S_slices_Equal_S_impl_Feedback_impl_Feedback__ok .nil)
  refine wp_seq ?_
  refine at_regq (T := S_impl_EqualFeedback_tab) [{ ids := [1] }, { ids := [2] }] { ts := [2, 3, 4], os := [1, 2] } [] gamOK hT h (by kernel_rfl) trivial ?_
  intro a w h
  refine then_normal ?_
  refine wp_seq ?_
  refine at_regq (T := S_impl_EqualFeedback_tab) [] { ts := [4], os := [] } [True] gamOK hT h (by kernel_rfl) ⟨trivial, trivial⟩ ?_
  intro a w h
  refine then_normal ?_
  refine wp_ret ?_
  exact at_return (S := S_impl_EqualFeedback) (x := (x0, x1, ())) (((Sh.eqB s69) x0 x1), ()) [] h (by kernel_rfl) trivial (congrArg (fun z => (z, ())) (show (((Sh.eqB s69) x0 x1)) = (Sh.eqB s71) x0 x1 from by first | rfl | (show _ = Sh.eqB s71 x0 x1; simp_all [Sh.eqB])))

def S_spec_EqualFeedback : Sum := { fid := 132, dom := [s71, s71], cod := [(.bool 4)], dp := true, fz := false, pre := fun x => True, g := fun x => (((Sh.eqB s71) x.1 x.2.1), ()) }
def S_spec_EqualFeedback_tab : List (Nat × Sum) := []
theorem S_spec_EqualFeedback_ok : FnOK Try.prog 132 S_spec_EqualFeedback := by
  refine at_enter 31 (fun x => ⟨[(0, aG [.ro s212 x.1]), (1, aG [.ro s212 x.2.1])], []⟩) Try.func132 rfl (by kernel_rfl) (fun x => rfl) ?_
  rintro w0 Z0 ⟨x0, x1, u⟩ a w
  revert x0 x1
  intro (x0 : (List T212)) (x1 : (List T212)) hpre hlens h
  replace h : At w0 Z0 [] 31 ⟨[(0, aG [.ro s212 x0]), (1, aG [.ro s212 x1])], []⟩ a w := h
  have hl1 : List.length x0 ≤ 9223372036854775807 := hlens.1.1
  have hl2 : List.length x1 ≤ 9223372036854775807 := hlens.2.1.1
  have hT : TabOK Try.prog S_spec_EqualFeedback_tab := .nil
  refine wp_seq ?_
  refine at_regq (T := S_spec_EqualFeedback_tab) [{ ids := [1] }, { ids := [2] }] { ts := [2, 3, 4], os := [1, 2] } [] gamOK hT h (by kernel_rfl) trivial ?_
  intro a w h
  refine then_normal ?_
  refine wp_seq ?_
  refine wp_seq ?_
  refine at_regq (T := S_spec_EqualFeedback_tab) [] { ts := [2, 3, 4, 12], os := [1, 2] } [] gamOK hT h (by kernel_rfl) trivial ?_
  intro a w h
  refine then_normal ?_
  refine at_test (!decide (((List.length x0 : Nat) : Int) = ((List.length x1 : Nat) : Int))) h (by kernel_rfl) (fun h1 => ?_) (fun h1 => ?_)
  · replace h1 : ¬ (((List.length x0 : Nat) : Int) = ((List.length x1 : Nat) : Int)) := of_decide_eq_false (notT h1)
    refine wp_seq ?_
    refine at_regq (T := S_spec_EqualFeedback_tab) [] { ts := [2, 3, 4], os := [1, 2] } [] gamOK hT h (by kernel_rfl) trivial ?_
    intro a w h
    refine then_normal ?_
    refine wp_ret ?_
    refine then_ret ?_
    exact at_return (S := S_spec_EqualFeedback) (x := (x0, x1, ())) (false, ()) [] h (by kernel_rfl) trivial (congrArg (fun z => (z, ())) (show (false) = (Sh.eqB s71) x0 x1 from by (show _ = Sh.eqB s71 x0 x1; first | exact (Sh.eqB_ne (fun e => by subst e; simp_all [Sh.eqB_self, allEq])).symm | (have e := hok0.2; rw [take_all (by omega), take_all (by omega)] at e; exact ((Sh.eqB_iff s71).2 e).symm))))
  · replace h1 : ((List.length x0 : Nat) : Int) = ((List.length x1 : Nat) : Int) := of_decide_eq_true (notF h1)
    refine wp_skip ?_
    refine then_normal ?_
    refine wp_seq ?_
    refine wp_seq ?_
    refine at_regq (T := S_spec_EqualFeedback_tab) [] { ts := [2, 3, 4, 5], os := [1, 2] } [] gamOK hT h (by kernel_rfl) trivial ?_
    intro a w h
    refine then_normal ?_
    refine wp_block ?_
    replace h := at_out (σ' := ⟨[(2, aP 1 0), (3, aP 2 0), (4, aB false), (5, aI 0)], [(1, oX 71 [.ro s212 x0]), (2, oX 71 [.ro s212 x1])]⟩) { ts := [2, 3, 4, 5], os := [1, 2] } h (by kernel_rfl)
    refine at_loop (fun i : Nat => (⟨[(2, aP 1 0), (3, aP 2 0), (4, aB false), (5, aI ((i : Nat) : Int))], [(1, oX 71 [.ro s212 x0]), (2, oX 71 [.ro s212 x1])]⟩ : St)) (fun i => (i ≤ List.length x0 ∧ List.take i x0 = List.take i x1)) (fun i => List.length x0 - i) (0) h (st_congr1 (fun (d0 : Int) => (⟨[(2, aP 1 0), (3, aP 2 0), (4, aB false), (5, aI d0)], [(1, oX 71 [.ro s212 x0]), (2, oX 71 [.ro s212 x1])]⟩ : St)) (show (0 : Int) = (((0) : Nat) : Int) from by first | with_reducible rfl | (rfl) | rfl)) (by exact ⟨Nat.zero_le _, rfl⟩) ?_
    intro i a w hok0 h
    refine wp_seq ?_
    refine wp_seq ?_
    refine at_reg (T := S_spec_EqualFeedback_tab) [] { ts := [2, 3, 4, 5, 17], os := [1, 2] } ⟨[(2, aP 1 0), (3, aP 2 0), (4, aB false), (5, aI ((i : Nat) : Int)), (17, aB (decide (((i : Nat) : Int) < ((List.length x0 : Nat) : Int))))], [(1, oX 71 [.ro s212 x0]), (2, oX 71 [.ro s212 x1])]⟩ [] gamOK hT h (by kernel_rfl) trivial ?_
    intro a w h
    refine then_normal ?_
    refine at_test (decide (((i : Nat) : Int) < ((List.length x0 : Nat) : Int))) h (by kernel_rfl) (fun h2 => ?_) (fun h2 => ?_)
    · replace h2 : ((i : Nat) : Int) < ((List.length x0 : Nat) : Int) := of_decide_eq_true h2
      refine wp_skip ?_
      refine then_normal ?_
      refine wp_seq ?_
      refine wp_block ?_
      refine wp_seq ?_
      refine at_anyq (T := S_spec_EqualFeedback_tab) [{}, {}, {}, {}, {}, {}, {}, {}, {}, {}, {}] { ts := [2, 3, 4, 5, 30], os := [1, 2] } [(0 : Int) ≤ ((i : Nat) : Int) ∧ ((i : Nat) : Int) < ((List.length x0 : Nat) : Int), (0 : Int) ≤ ((i : Nat) : Int) ∧ ((i : Nat) : Int) < ((List.length x1 : Nat) : Int)] gamOK hT mixed h (by kernel_rfl) ⟨(by refine ⟨?_, ?_⟩ <;> (first | omega | (simp only [List.length_append, List.length_cons, List.length_nil, List.length_set, List.length_take, List.length_drop, List.length_replicate, List.length_map, Nat.min_def]; omega) | (simp; done) | (simp; omega) | done)), (by refine ⟨?_, ?_⟩ <;> (first | omega | (simp only [List.length_append, List.length_cons, List.length_nil, List.length_set, List.length_take, List.length_drop, List.length_replicate, List.length_map, Nat.min_def]; omega) | (simp; done) | (simp; omega) | done)), trivial⟩ ?_
      intro a w h
      refine then_normal ?_
      refine at_test (!(allEq [(x0.getD i (0, (0, 0))).1, (x0.getD i (0, (0, 0))).2.1, (x0.getD i (0, (0, 0))).2.2] [(x1.getD i (0, (0, 0))).1, (x1.getD i (0, (0, 0))).2.1, (x1.getD i (0, (0, 0))).2.2])) h (by kernel_rfl) (fun h3 => ?_) (fun h3 => ?_)
      · replace h3 : (allEq [(x0.getD i (0, (0, 0))).1, (x0.getD i (0, (0, 0))).2.1, (x0.getD i (0, (0, 0))).2.2] [(x1.getD i (0, (0, 0))).1, (x1.getD i (0, (0, 0))).2.1, (x1.getD i (0, (0, 0))).2.2]) = false := notT h3
        refine wp_seq ?_
        refine at_regq (T := S_spec_EqualFeedback_tab) [] { ts := [2, 3, 4, 5], os := [1, 2] } [] gamOK hT h (by kernel_rfl) trivial ?_
        intro a w h
        refine then_normal ?_
        refine wp_ret ?_
        refine in_ret ?_
        refine then_ret ?_
        refine then_ret ?_
        refine in_ret ?_
        refine then_ret ?_
        exact at_return (S := S_spec_EqualFeedback) (x := (x0, x1, ())) (false, ()) [] h (by kernel_rfl) trivial (congrArg (fun z => (z, ())) (show (false) = (Sh.eqB s71) x0 x1 from by (show _ = Sh.eqB s71 x0 x1; first | exact (Sh.eqB_ne (fun e => by subst e; simp_all [Sh.eqB_self, allEq])).symm | (have e := hok0.2; rw [take_all (by omega), take_all (by omega)] at e; exact ((Sh.eqB_iff s71).2 e).symm))))
      · replace h3 : (allEq [(x0.getD i (0, (0, 0))).1, (x0.getD i (0, (0, 0))).2.1, (x0.getD i (0, (0, 0))).2.2] [(x1.getD i (0, (0, 0))).1, (x1.getD i (0, (0, 0))).2.1, (x1.getD i (0, (0, 0))).2.2]) = true := notF h3
        refine wp_skip ?_
        refine in_normal ?_
        refine then_normal ?_
        refine at_regq (T := S_spec_EqualFeedback_tab) [{}, { nw := true }] { ts := [2, 3, 4, 5], os := [1, 2] } [I64 (((i : Nat) : Int) + 1)] gamOK hT h (by kernel_rfl) ⟨⟨by first | omega | (simp only [List.length_append, List.length_cons, List.length_nil, List.length_set, List.length_take, List.length_drop, List.length_replicate, List.length_map, Nat.min_def]; omega) | (simp; done) | (simp; omega) | done, by first | omega | (simp only [List.length_append, List.length_cons, List.length_nil, List.length_set, List.length_take, List.length_drop, List.length_replicate, List.length_map, Nat.min_def]; omega) | (simp; done) | (simp; omega) | done⟩, trivial⟩ ?_
        intro a w h
        replace h := at_out (σ' := ⟨[(2, aP 1 0), (3, aP 2 0), (4, aB false), (5, aI (((i : Nat) : Int) + 1))], [(1, oX 71 [.ro s212 x0]), (2, oX 71 [.ro s212 x1])]⟩) { ts := [2, 3, 4, 5], os := [1, 2] } h (by kernel_rfl)
        exact ⟨i + 1, at_eq h (st_congr1 (fun (d0 : Int) => (⟨[(2, aP 1 0), (3, aP 2 0), (4, aB false), (5, aI d0)], [(1, oX 71 [.ro s212 x0]), (2, oX 71 [.ro s212 x1])]⟩ : St)) (show (((i : Nat) : Int) + 1 : Int) = (((i + 1) : Nat) : Int) from by first | with_reducible rfl | (omega) | rfl)), (by exact ⟨by omega, eqTo_step (z := (0, (0, 0))) (by omega) (by omega) hok0.2 ((Sh.eqB_iff s212).1 (by simp_all [allEq, Sh.eqB]))⟩), (by omega)⟩
    · replace h2 : ¬ (((i : Nat) : Int) < ((List.length x0 : Nat) : Int)) := of_decide_eq_false h2
      refine wp_exit ?_
      refine then_exit ?_
      refine then_exit ?_
      refine in_hit ?_
      refine then_normal ?_
      refine wp_seq ?_
      refine at_regq (T := S_spec_EqualFeedback_tab) [] { ts := [4], os := [] } [] gamOK hT h (by kernel_rfl) trivial ?_
      intro a w h
      refine then_normal ?_
      refine wp_ret ?_
      exact at_return (S := S_spec_EqualFeedback) (x := (x0, x1, ())) (true, ()) [] h (by kernel_rfl) trivial (congrArg (fun z => (z, ())) (show (true) = (Sh.eqB s71) x0 x1 from by (show _ = Sh.eqB s71 x0 x1; first | exact (Sh.eqB_ne (fun e => by subst e; simp_all [Sh.eqB_self, allEq])).symm | (have e := hok0.2; rw [take_all (by omega), take_all (by omega)] at e; exact ((Sh.eqB_iff s71).2 e).symm))))

def S_impl_EqualSources : Sum := { fid := 52, dom := [s73, s73], cod := [(.bool 4)], dp := true, fz := false, pre := fun x => True, g := fun x => (((Sh.eqB s73) x.1 x.2.1), ()) }
def S_impl_EqualSources_tab : List (Nat × Sum) := [(134, S_impl_EqualFeedback), (100010, S_slices_EqualFunc_S_impl_Generation_S_impl_Generation_impl_Generation_impl_Generation__EqualGenerations), (100002, S_slices_EqualFunc_S_impl_Recoder_S_impl_Recoder_impl_Recoder_impl_Recoder__EqualRecoders)]
theorem S_impl_EqualSources_ok : FnOK Try.prog 52 S_impl_EqualSources := by
  refine at_enter 38 (fun x => ⟨[(0, aG [.ro s86 x.1.1, cI x.1.2.1.1, cI x.1.2.1.2.1, cI x.1.2.1.2.2.1, cI x.1.2.1.2.2.2, .ro s122 x.1.2.2.1, .ro s212 x.1.2.2.2.1, cI x.1.2.2.2.2]), (1, aG [.ro s86 x.2.1.1, cI x.2.1.2.1.1, cI x.2.1.2.1.2.1, cI x.2.1.2.1.2.2.1, cI x.2.1.2.1.2.2.2, .ro s122 x.2.1.2.2.1, .ro s212 x.2.1.2.2.2.1, cI x.2.1.2.2.2.2])], []⟩) Try.func52 rfl (by kernel_rfl) (fun x => rfl) ?_
  rintro w0 Z0 ⟨x0, x1, u⟩ a w
  revert x0 x1
  intro (x0 : T73) (x1 : T73) hpre hlens h
  replace h : At w0 Z0 [] 38 ⟨[(0, aG [.ro s86 x0.1, cI x0.2.1.1, cI x0.2.1.2.1, cI x0.2.1.2.2.1, cI x0.2.1.2.2.2, .ro s122 x0.2.2.1, .ro s212 x0.2.2.2.1, cI x0.2.2.2.2]), (1, aG [.ro s86 x1.1, cI x1.2.1.1, cI x1.2.1.2.1, cI x1.2.1.2.2.1, cI x1.2.1.2.2.2, .ro s122 x1.2.2.1, .ro s212 x1.2.2.2.1, cI x1.2.2.2.2])], []⟩ a w := h
  have hl1 : List.length x0.1 ≤ 9223372036854775807 := hlens.1.1.1
  have hl2 : List.length x0.2.2.1 ≤ 9223372036854775807 := hlens.1.2.2.1.1
  have hl3 : List.length x0.2.2.2.1 ≤ 9223372036854775807 := hlens.1.2.2.2.1.1
  have hl4 : List.length x1.1 ≤ 9223372036854775807 := hlens.2.1.1.1
  have hl5 : List.length x1.2.2.1 ≤ 9223372036854775807 := hlens.2.1.2.2.1.1
  have hl6 : List.length x1.2.2.2.1 ≤ 9223372036854775807 := hlens.2.1.2.2.2.1.1
  have hT : TabOK Try.prog S_impl_EqualSources_tab := (.cons S_impl_EqualFeedback_ok (.cons S_slices_EqualFunc_S_impl_Generation_S_impl_Generation_impl_Generation_impl_Generation__EqualGenerations_ok (.cons S_slices_EqualFunc_S_impl_Recoder_S_impl_Recoder_impl_Recoder_impl_Recoder__EqualRecoders_ok .nil)))
  refine wp_seq ?_
  refine at_regq (T := S_impl_EqualSources_tab) [{ ids := [1] }, { ids := [2] }] { ts := [2, 3, 4], os := [1, 2] } [] gamOK hT h (by kernel_rfl) trivial ?_
  intro a w h
  refine then_normal ?_
  refine wp_seq ?_
  rcases Bool.eq_false_or_eq_true (allEq [x0.2.1.1, x0.2.1.2.1, x0.2.1.2.2.1, x0.2.1.2.2.2] [x1.2.1.1, x1.2.1.2.1, x1.2.1.2.2.1, x1.2.1.2.2.2]) with h1 | h1
  · skip
    by_cases h2 : x0.2.2.2.2 = x1.2.2.2.2
    · skip
      rcases Bool.eq_false_or_eq_true (((Sh.eqB s71) x0.2.2.2.1 x1.2.2.2.1)) with h3 | h3
      · skip
        rcases Bool.eq_false_or_eq_true ((D_slices_EqualFunc_S_impl_Generation_S_impl_Generation_impl_Generation_impl_Generation__EqualGenerations x0.1 x1.1 ())) with h4 | h4
        · skip
          refine at_regq (T := S_impl_EqualSources_tab) [{}, {}, {}, {}, { hint := some (aB true) }, {}, {}, {}, {}, {}, { hint := some (aB true) }, {}, {}, {}, {}, {}, {}, { hint := some (aB true) }, {}, {}, {}, {}, {}, {}, { hint := some (aB true), key := some 100010 }, {}, {}, {}, {}, {}, {}, { key := some 100002 }] { ts := [4], os := [] } [(AV.p (.c (.v (.bool (allEq [x0.2.1.1, x0.2.1.2.1, x0.2.1.2.2.1, x0.2.1.2.2.2] [x1.2.1.1, x1.2.1.2.1, x1.2.1.2.2.1, x1.2.1.2.2.2])))) = AV.p (.c (.v (.bool true)))), (AV.p (.c (.v (.bool (decide (x0.2.2.2.2 = x1.2.2.2.2))))) = AV.p (.c (.v (.bool true)))), True, (AV.p (.c (.v (.bool (((Sh.eqB s71) x0.2.2.2.1 x1.2.2.2.1))))) = AV.p (.c (.v (.bool true)))), True, (AV.p (.c (.v (.bool ((D_slices_EqualFunc_S_impl_Generation_S_impl_Generation_impl_Generation_impl_Generation__EqualGenerations x0.1 x1.1 ()))))) = AV.p (.c (.v (.bool true)))), True] gamOK hT h (by kernel_rfl) ⟨hint_bool (h1), hint_bool (decide_eq_true h2), trivial, hint_bool (h3), trivial, hint_bool (h4), trivial, trivial⟩ ?_
          intro a w h
          refine then_normal ?_
          refine wp_ret ?_
          exact at_return (S := S_impl_EqualSources) (x := (x0, x1, ())) ((D_slices_EqualFunc_S_impl_Recoder_S_impl_Recoder_impl_Recoder_impl_Recoder__EqualRecoders x0.2.2.1 x1.2.2.1 ()), ()) [] h (by kernel_rfl) trivial (congrArg (fun z => (z, ())) (show ((D_slices_EqualFunc_S_impl_Recoder_S_impl_Recoder_impl_Recoder_impl_Recoder__EqualRecoders x0.2.2.1 x1.2.2.1 ())) = (Sh.eqB s73) x0 x1 from by (show _ = Sh.eqB s73 x0 x1; simp_all [Sh.eqB, eqF_eqL, allEq, D_slices_EqualFunc_S_impl_Generation_S_impl_Generation_impl_Generation_impl_Generation__EqualGenerations, D_slices_EqualFunc_S_impl_Recoder_S_impl_Recoder_impl_Recoder_impl_Recoder__EqualRecoders])))
        · skip
          refine at_regq (T := S_impl_EqualSources_tab) [{}, {}, {}, {}, { hint := some (aB true) }, {}, {}, {}, {}, {}, { hint := some (aB true) }, {}, {}, {}, {}, {}, {}, { hint := some (aB true) }, {}, {}, {}, {}, {}, {}, { hint := some (aB false), key := some 100010 }] { ts := [4], os := [] } [(AV.p (.c (.v (.bool (allEq [x0.2.1.1, x0.2.1.2.1, x0.2.1.2.2.1, x0.2.1.2.2.2] [x1.2.1.1, x1.2.1.2.1, x1.2.1.2.2.1, x1.2.1.2.2.2])))) = AV.p (.c (.v (.bool true)))), (AV.p (.c (.v (.bool (decide (x0.2.2.2.2 = x1.2.2.2.2))))) = AV.p (.c (.v (.bool true)))), True, (AV.p (.c (.v (.bool (((Sh.eqB s71) x0.2.2.2.1 x1.2.2.2.1))))) = AV.p (.c (.v (.bool true)))), True, (AV.p (.c (.v (.bool ((D_slices_EqualFunc_S_impl_Generation_S_impl_Generation_impl_Generation_impl_Generation__EqualGenerations x0.1 x1.1 ()))))) = AV.p (.c (.v (.bool false))))] gamOK hT h (by kernel_rfl) ⟨hint_bool (h1), hint_bool (decide_eq_true h2), trivial, hint_bool (h3), trivial, hint_bool (h4), trivial⟩ ?_
          intro a w h
          refine then_normal ?_
          refine wp_ret ?_
          exact at_return (S := S_impl_EqualSources) (x := (x0, x1, ())) (false, ()) [] h (by kernel_rfl) trivial (congrArg (fun z => (z, ())) (show (false) = (Sh.eqB s73) x0 x1 from by (show _ = Sh.eqB s73 x0 x1; simp_all [Sh.eqB, eqF_eqL, allEq, D_slices_EqualFunc_S_impl_Generation_S_impl_Generation_impl_Generation_impl_Generation__EqualGenerations, D_slices_EqualFunc_S_impl_Recoder_S_impl_Recoder_impl_Recoder_impl_Recoder__EqualRecoders])))
      · skip
        refine at_regq (T := S_impl_EqualSources_tab) [{}, {}, {}, {}, { hint := some (aB true) }, {}, {}, {}, {}, {}, { hint := some (aB true) }, {}, {}, {}, {}, {}, {}, { hint := some (aB false) }] { ts := [4], os := [] } [(AV.p (.c (.v (.bool (allEq [x0.2.1.1, x0.2.1.2.1, x0.2.1.2.2.1, x0.2.1.2.2.2] [x1.2.1.1, x1.2.1.2.1, x1.2.1.2.2.1, x1.2.1.2.2.2])))) = AV.p (.c (.v (.bool true)))), (AV.p (.c (.v (.bool (decide (x0.2.2.2.2 = x1.2.2.2.2))))) = AV.p (.c (.v (.bool true)))), True, (AV.p (.c (.v (.bool (((Sh.eqB s71) x0.2.2.2.1 x1.2.2.2.1))))) = AV.p (.c (.v (.bool false))))] gamOK hT h (by kernel_rfl) ⟨hint_bool (h1), hint_bool (decide_eq_true h2), trivial, hint_bool (h3), trivial⟩ ?_
        intro a w h
        refine then_normal ?_
        refine wp_ret ?_
        exact at_return (S := S_impl_EqualSources) (x := (x0, x1, ())) (false, ()) [] h (by kernel_rfl) trivial (congrArg (fun z => (z, ())) (show (false) = (Sh.eqB s73) x0 x1 from by (show _ = Sh.eqB s73 x0 x1; simp_all [Sh.eqB, eqF_eqL, allEq, D_slices_EqualFunc_S_impl_Generation_S_impl_Generation_impl_Generation_impl_Generation__EqualGenerations, D_slices_EqualFunc_S_impl_Recoder_S_impl_Recoder_impl_Recoder_impl_Recoder__EqualRecoders])))
    · skip
      refine at_regq (T := S_impl_EqualSources_tab) [{}, {}, {}, {}, { hint := some (aB true) }, {}, {}, {}, {}, {}, { hint := some (aB false) }] { ts := [4], os := [] } [(AV.p (.c (.v (.bool (allEq [x0.2.1.1, x0.2.1.2.1, x0.2.1.2.2.1, x0.2.1.2.2.2] [x1.2.1.1, x1.2.1.2.1, x1.2.1.2.2.1, x1.2.1.2.2.2])))) = AV.p (.c (.v (.bool true)))), (AV.p (.c (.v (.bool (decide (x0.2.2.2.2 = x1.2.2.2.2))))) = AV.p (.c (.v (.bool false))))] gamOK hT h (by kernel_rfl) ⟨hint_bool (h1), hint_bool (decide_eq_false h2), trivial⟩ ?_
      intro a w h
      refine then_normal ?_
      refine wp_ret ?_
      exact at_return (S := S_impl_EqualSources) (x := (x0, x1, ())) (false, ()) [] h (by kernel_rfl) trivial (congrArg (fun z => (z, ())) (show (false) = (Sh.eqB s73) x0 x1 from by (show _ = Sh.eqB s73 x0 x1; simp_all [Sh.eqB, eqF_eqL, allEq, D_slices_EqualFunc_S_impl_Generation_S_impl_Generation_impl_Generation_impl_Generation__EqualGenerations, D_slices_EqualFunc_S_impl_Recoder_S_impl_Recoder_impl_Recoder_impl_Recoder__EqualRecoders])))
  · skip
    refine at_regq (T := S_impl_EqualSources_tab) [{}, {}, {}, {}, { hint := some (aB false) }] { ts := [4], os := [] } [(AV.p (.c (.v (.bool (allEq [x0.2.1.1, x0.2.1.2.1, x0.2.1.2.2.1, x0.2.1.2.2.2] [x1.2.1.1, x1.2.1.2.1, x1.2.1.2.2.1, x1.2.1.2.2.2])))) = AV.p (.c (.v (.bool false))))] gamOK hT h (by kernel_rfl) ⟨hint_bool (h1), trivial⟩ ?_
    intro a w h
    refine then_normal ?_
    refine wp_ret ?_
    exact at_return (S := S_impl_EqualSources) (x := (x0, x1, ())) (false, ()) [] h (by kernel_rfl) trivial (congrArg (fun z => (z, ())) (show (false) = (Sh.eqB s73) x0 x1 from by (show _ = Sh.eqB s73 x0 x1; simp_all [Sh.eqB, eqF_eqL, allEq, D_slices_EqualFunc_S_impl_Generation_S_impl_Generation_impl_Generation_impl_Generation__EqualGenerations, D_slices_EqualFunc_S_impl_Recoder_S_impl_Recoder_impl_Recoder_impl_Recoder__EqualRecoders])))

def S_spec_EqualSources : Sum := { fid := 51, dom := [s73, s73], cod := [(.bool 4)], dp := true, fz := false, pre := fun x => True, g := fun x => (((Sh.eqB s73) x.1 x.2.1), ()) }
def S_spec_EqualSources_tab : List (Nat × Sum) := [(132, S_spec_EqualFeedback), (90, S_spec_EqualGenerations), (133, S_spec_EqualRecoders)]
theorem S_spec_EqualSources_ok : FnOK Try.prog 51 S_spec_EqualSources := by
  refine at_enter 83 (fun x => ⟨[(0, aG [.ro s86 x.1.1, cI x.1.2.1.1, cI x.1.2.1.2.1, cI x.1.2.1.2.2.1, cI x.1.2.1.2.2.2, .ro s122 x.1.2.2.1, .ro s212 x.1.2.2.2.1, cI x.1.2.2.2.2]), (1, aG [.ro s86 x.2.1.1, cI x.2.1.2.1.1, cI x.2.1.2.1.2.1, cI x.2.1.2.1.2.2.1, cI x.2.1.2.1.2.2.2, .ro s122 x.2.1.2.2.1, .ro s212 x.2.1.2.2.2.1, cI x.2.1.2.2.2.2])], []⟩) Try.func51 rfl (by kernel_rfl) (fun x => rfl) ?_
  rintro w0 Z0 ⟨x0, x1, u⟩ a w
  revert x0 x1
  intro (x0 : T73) (x1 : T73) hpre hlens h
  replace h : At w0 Z0 [] 83 ⟨[(0, aG [.ro s86 x0.1, cI x0.2.1.1, cI x0.2.1.2.1, cI x0.2.1.2.2.1, cI x0.2.1.2.2.2, .ro s122 x0.2.2.1, .ro s212 x0.2.2.2.1, cI x0.2.2.2.2]), (1, aG [.ro s86 x1.1, cI x1.2.1.1, cI x1.2.1.2.1, cI x1.2.1.2.2.1, cI x1.2.1.2.2.2, .ro s122 x1.2.2.1, .ro s212 x1.2.2.2.1, cI x1.2.2.2.2])], []⟩ a w := h
  have hl1 : List.length x0.1 ≤ 9223372036854775807 := hlens.1.1.1
  have hl2 : List.length x0.2.2.1 ≤ 9223372036854775807 := hlens.1.2.2.1.1
  have hl3 : List.length x0.2.2.2.1 ≤ 9223372036854775807 := hlens.1.2.2.2.1.1
  have hl4 : List.length x1.1 ≤ 9223372036854775807 := hlens.2.1.1.1
  have hl5 : List.length x1.2.2.1 ≤ 9223372036854775807 := hlens.2.1.2.2.1.1
  have hl6 : List.length x1.2.2.2.1 ≤ 9223372036854775807 := hlens.2.1.2.2.2.1.1
  have hT : TabOK Try.prog S_spec_EqualSources_tab := (.cons S_spec_EqualFeedback_ok (.cons S_spec_EqualGenerations_ok (.cons S_spec_EqualRecoders_ok .nil)))
  refine wp_seq ?_
  refine at_regq (T := S_spec_EqualSources_tab) [{ ids := [1] }, { ids := [2] }] { ts := [2, 3, 4], os := [1, 2] } [] gamOK hT h (by kernel_rfl) trivial ?_
  intro a w h
  refine then_normal ?_
  refine wp_seq ?_
  refine wp_seq ?_
  rcases Bool.eq_false_or_eq_true (!(allEq [x0.2.1.1, x0.2.1.2.1, x0.2.1.2.2.1, x0.2.1.2.2.2] [x1.2.1.1, x1.2.1.2.1, x1.2.1.2.2.1, x1.2.1.2.2.2])) with h1 | h1
  · skip
    have hzh1 : (allEq [x0.2.1.1, x0.2.1.2.1, x0.2.1.2.2.1, x0.2.1.2.2.2] [x1.2.1.1, x1.2.1.2.1, x1.2.1.2.2.1, x1.2.1.2.2.2]) = false := notT h1
    refine at_regq (T := S_spec_EqualSources_tab) [{}, {}, {}, {}, { hint := some (aB true) }] { ts := [2, 3, 4, 44], os := [1, 2] } [(AV.p (.c (.v (.bool (!(allEq [x0.2.1.1, x0.2.1.2.1, x0.2.1.2.2.1, x0.2.1.2.2.2] [x1.2.1.1, x1.2.1.2.1, x1.2.1.2.2.1, x1.2.1.2.2.2]))))) = AV.p (.c (.v (.bool true))))] gamOK hT h (by kernel_rfl) ⟨hint_bool (h1), trivial⟩ ?_
    intro a w h
    refine then_normal ?_
    refine at_test true h (by kernel_rfl) (fun hh => ?_) (fun hh => nomatch hh)
    refine wp_seq ?_
    refine at_regq (T := S_spec_EqualSources_tab) [] { ts := [2, 3, 4], os := [1, 2] } [] gamOK hT h (by kernel_rfl) trivial ?_
    intro a w h
    refine then_normal ?_
    refine wp_ret ?_
    refine then_ret ?_
    exact at_return (S := S_spec_EqualSources) (x := (x0, x1, ())) (false, ()) [] h (by kernel_rfl) trivial (congrArg (fun z => (z, ())) (show (false) = (Sh.eqB s73) x0 x1 from by (show _ = Sh.eqB s73 x0 x1; first | exact (Sh.eqB_ne (fun e => by subst e; simp_all [Sh.eqB_self, allEq])).symm | exact ((Sh.eqB_iff s73).2 (Prod.ext (by first | assumption | exact of_decide_eq_true (by assumption) | exact Sh.of_eqB (by assumption)) (Prod.ext ((Sh.eqB_iff s67).1 (by simp_all [allEq, Sh.eqB])) (Prod.ext (by first | assumption | exact of_decide_eq_true (by assumption) | exact Sh.of_eqB (by assumption)) (Prod.ext (by first | assumption | exact of_decide_eq_true (by assumption) | exact Sh.of_eqB (by assumption)) (by first | assumption | exact of_decide_eq_true (by assumption) | exact Sh.of_eqB (by assumption))))))).symm)))
  · skip
    have hzh1 : (allEq [x0.2.1.1, x0.2.1.2.1, x0.2.1.2.2.1, x0.2.1.2.2.2] [x1.2.1.1, x1.2.1.2.1, x1.2.1.2.2.1, x1.2.1.2.2.2]) = true := notF h1
    by_cases h2 : x0.2.2.2.2 = x1.2.2.2.2
    · skip
      rcases Bool.eq_false_or_eq_true (!((Sh.eqB s71) x0.2.2.2.1 x1.2.2.2.1)) with h3 | h3
      · skip
        have hzh3 : ((Sh.eqB s71) x0.2.2.2.1 x1.2.2.2.1) = false := notT h3
        refine at_regq (T := S_spec_EqualSources_tab) [{}, {}, {}, {}, { hint := some (aB false) }, {}, {}, {}, {}, {}, { hint := some (aB false) }, {}, {}, {}, {}, {}, {}, {}, { hint := some (aB true) }] { ts := [2, 3, 4, 44], os := [1, 2] } [(AV.p (.c (.v (.bool (!(allEq [x0.2.1.1, x0.2.1.2.1, x0.2.1.2.2.1, x0.2.1.2.2.2] [x1.2.1.1, x1.2.1.2.1, x1.2.1.2.2.1, x1.2.1.2.2.2]))))) = AV.p (.c (.v (.bool false)))), (AV.p (.c (.v (.bool (!decide (x0.2.2.2.2 = x1.2.2.2.2))))) = AV.p (.c (.v (.bool false)))), True, (AV.p (.c (.v (.bool (!((Sh.eqB s71) x0.2.2.2.1 x1.2.2.2.1))))) = AV.p (.c (.v (.bool true))))] gamOK hT h (by kernel_rfl) ⟨hint_bool (h1), hint_bool (ndT h2), trivial, hint_bool (h3), trivial⟩ ?_
        intro a w h
        refine then_normal ?_
        refine at_test true h (by kernel_rfl) (fun hh => ?_) (fun hh => nomatch hh)
        refine wp_seq ?_
        refine at_regq (T := S_spec_EqualSources_tab) [] { ts := [2, 3, 4], os := [1, 2] } [] gamOK hT h (by kernel_rfl) trivial ?_
        intro a w h
        refine then_normal ?_
        refine wp_ret ?_
        refine then_ret ?_
        exact at_return (S := S_spec_EqualSources) (x := (x0, x1, ())) (false, ()) [] h (by kernel_rfl) trivial (congrArg (fun z => (z, ())) (show (false) = (Sh.eqB s73) x0 x1 from by (show _ = Sh.eqB s73 x0 x1; first | exact (Sh.eqB_ne (fun e => by subst e; simp_all [Sh.eqB_self, allEq])).symm | exact ((Sh.eqB_iff s73).2 (Prod.ext (by first | assumption | exact of_decide_eq_true (by assumption) | exact Sh.of_eqB (by assumption)) (Prod.ext ((Sh.eqB_iff s67).1 (by simp_all [allEq, Sh.eqB])) (Prod.ext (by first | assumption | exact of_decide_eq_true (by assumption) | exact Sh.of_eqB (by assumption)) (Prod.ext (by first | assumption | exact of_decide_eq_true (by assumption) | exact Sh.of_eqB (by assumption)) (by first | assumption | exact of_decide_eq_true (by assumption) | exact Sh.of_eqB (by assumption))))))).symm)))
      · skip
        have hzh3 : ((Sh.eqB s71) x0.2.2.2.1 x1.2.2.2.1) = true := notF h3
        by_cases h4 : ((List.length x0.1 : Nat) : Int) = ((List.length x1.1 : Nat) : Int)
        · skip
          refine at_regq (T := S_spec_EqualSources_tab) [{}, {}, {}, {}, { hint := some (aB false) }, {}, {}, {}, {}, {}, { hint := some (aB false) }, {}, {}, {}, {}, {}, {}, {}, { hint := some (aB false) }, {}, {}, {}, {}, {}, {}, {}, {}, { hint := some (aB false) }] { ts := [2, 3, 4, 44], os := [1, 2] } [(AV.p (.c (.v (.bool (!(allEq [x0.2.1.1, x0.2.1.2.1, x0.2.1.2.2.1, x0.2.1.2.2.2] [x1.2.1.1, x1.2.1.2.1, x1.2.1.2.2.1, x1.2.1.2.2.2]))))) = AV.p (.c (.v (.bool false)))), (AV.p (.c (.v (.bool (!decide (x0.2.2.2.2 = x1.2.2.2.2))))) = AV.p (.c (.v (.bool false)))), True, (AV.p (.c (.v (.bool (!((Sh.eqB s71) x0.2.2.2.1 x1.2.2.2.1))))) = AV.p (.c (.v (.bool false)))), (AV.p (.c (.v (.bool (!decide (((List.length x0.1 : Nat) : Int) = ((List.length x1.1 : Nat) : Int)))))) = AV.p (.c (.v (.bool false))))] gamOK hT h (by kernel_rfl) ⟨hint_bool (h1), hint_bool (ndT h2), trivial, hint_bool (h3), hint_bool (ndT h4), trivial⟩ ?_
          intro a w h
          refine then_normal ?_
          refine at_test (!decide (((List.length x0.2.2.1 : Nat) : Int) = ((List.length x1.2.2.1 : Nat) : Int))) h (by kernel_rfl) (fun h5 => ?_) (fun h5 => ?_)
          · replace h5 : ¬ (((List.length x0.2.2.1 : Nat) : Int) = ((List.length x1.2.2.1 : Nat) : Int)) := of_decide_eq_false (notT h5)
            refine wp_seq ?_
            refine at_regq (T := S_spec_EqualSources_tab) [] { ts := [2, 3, 4], os := [1, 2] } [] gamOK hT h (by kernel_rfl) trivial ?_
            intro a w h
            refine then_normal ?_
            refine wp_ret ?_
            refine then_ret ?_
            exact at_return (S := S_spec_EqualSources) (x := (x0, x1, ())) (false, ()) [] h (by kernel_rfl) trivial (congrArg (fun z => (z, ())) (show (false) = (Sh.eqB s73) x0 x1 from by (show _ = Sh.eqB s73 x0 x1; first | exact (Sh.eqB_ne (fun e => by subst e; simp_all [Sh.eqB_self, allEq])).symm | exact ((Sh.eqB_iff s73).2 (Prod.ext (by first | assumption | exact of_decide_eq_true (by assumption) | exact Sh.of_eqB (by assumption)) (Prod.ext ((Sh.eqB_iff s67).1 (by simp_all [allEq, Sh.eqB])) (Prod.ext (by first | assumption | exact of_decide_eq_true (by assumption) | exact Sh.of_eqB (by assumption)) (Prod.ext (by first | assumption | exact of_decide_eq_true (by assumption) | exact Sh.of_eqB (by assumption)) (by first | assumption | exact of_decide_eq_true (by assumption) | exact Sh.of_eqB (by assumption))))))).symm)))
          · replace h5 : ((List.length x0.2.2.1 : Nat) : Int) = ((List.length x1.2.2.1 : Nat) : Int) := of_decide_eq_true (notF h5)
            refine wp_skip ?_
            refine then_normal ?_
            refine wp_seq ?_
            refine wp_seq ?_
            refine at_regq (T := S_spec_EqualSources_tab) [] { ts := [2, 3, 4, 5], os := [1, 2] } [] gamOK hT h (by kernel_rfl) trivial ?_
            intro a w h
            refine then_normal ?_
            refine wp_block ?_
            replace h := at_out (σ' := ⟨[(2, aP 1 0), (3, aP 2 0), (4, aB false), (5, aI 0)], [(1, oX 73 [.ro s86 x0.1, cI x0.2.1.1, cI x0.2.1.2.1, cI x0.2.1.2.2.1, cI x0.2.1.2.2.2, .ro s122 x0.2.2.1, .ro s212 x0.2.2.2.1, cI x0.2.2.2.2]), (2, oX 73 [.ro s86 x1.1, cI x1.2.1.1, cI x1.2.1.2.1, cI x1.2.1.2.2.1, cI x1.2.1.2.2.2, .ro s122 x1.2.2.1, .ro s212 x1.2.2.2.1, cI x1.2.2.2.2])]⟩) { ts := [2, 3, 4, 5], os := [1, 2] } h (by kernel_rfl)
            refine at_loop (fun i : Nat => (⟨[(2, aP 1 0), (3, aP 2 0), (4, aB false), (5, aI ((i : Nat) : Int))], [(1, oX 73 [.ro s86 x0.1, cI x0.2.1.1, cI x0.2.1.2.1, cI x0.2.1.2.2.1, cI x0.2.1.2.2.2, .ro s122 x0.2.2.1, .ro s212 x0.2.2.2.1, cI x0.2.2.2.2]), (2, oX 73 [.ro s86 x1.1, cI x1.2.1.1, cI x1.2.1.2.1, cI x1.2.1.2.2.1, cI x1.2.1.2.2.2, .ro s122 x1.2.2.1, .ro s212 x1.2.2.2.1, cI x1.2.2.2.2])]⟩ : St)) (fun i => (i ≤ List.length x0.1 ∧ List.take i x0.1 = List.take i x1.1)) (fun i => List.length x0.1 - i) (0) h (st_congr1 (fun (d0 : Int) => (⟨[(2, aP 1 0), (3, aP 2 0), (4, aB false), (5, aI d0)], [(1, oX 73 [.ro s86 x0.1, cI x0.2.1.1, cI x0.2.1.2.1, cI x0.2.1.2.2.1, cI x0.2.1.2.2.2, .ro s122 x0.2.2.1, .ro s212 x0.2.2.2.1, cI x0.2.2.2.2]), (2, oX 73 [.ro s86 x1.1, cI x1.2.1.1, cI x1.2.1.2.1, cI x1.2.1.2.2.1, cI x1.2.1.2.2.2, .ro s122 x1.2.2.1, .ro s212 x1.2.2.2.1, cI x1.2.2.2.2])]⟩ : St)) (show (0 : Int) = (((0) : Nat) : Int) from by first | with_reducible rfl | (rfl) | rfl)) (by exact ⟨Nat.zero_le _, rfl⟩) ?_
            intro i a w hok0 h
            refine wp_seq ?_
            refine wp_seq ?_
            refine at_reg (T := S_spec_EqualSources_tab) [] { ts := [2, 3, 4, 5, 49], os := [1, 2] } ⟨[(2, aP 1 0), (3, aP 2 0), (4, aB false), (5, aI ((i : Nat) : Int)), (49, aB (decide (((i : Nat) : Int) < ((List.length x0.1 : Nat) : Int))))], [(1, oX 73 [.ro s86 x0.1, cI x0.2.1.1, cI x0.2.1.2.1, cI x0.2.1.2.2.1, cI x0.2.1.2.2.2, .ro s122 x0.2.2.1, .ro s212 x0.2.2.2.1, cI x0.2.2.2.2]), (2, oX 73 [.ro s86 x1.1, cI x1.2.1.1, cI x1.2.1.2.1, cI x1.2.1.2.2.1, cI x1.2.1.2.2.2, .ro s122 x1.2.2.1, .ro s212 x1.2.2.2.1, cI x1.2.2.2.2])]⟩ [] gamOK hT h (by kernel_rfl) trivial ?_
            intro a w h
            refine then_normal ?_
            refine at_test (decide (((i : Nat) : Int) < ((List.length x0.1 : Nat) : Int))) h (by kernel_rfl) (fun h6 => ?_) (fun h6 => ?_)
            · replace h6 : ((i : Nat) : Int) < ((List.length x0.1 : Nat) : Int) := of_decide_eq_true h6
              refine wp_skip ?_
              refine then_normal ?_
              refine wp_seq ?_
              refine wp_block ?_
              refine wp_seq ?_
              refine at_anyq (T := S_spec_EqualSources_tab) [{}, {}, {}, {}, {}, {}, {}, {}, {}, {}, {}, {}] { ts := [2, 3, 4, 5, 63], os := [1, 2] } [(0 : Int) ≤ ((i : Nat) : Int) ∧ ((i : Nat) : Int) < ((List.length x0.1 : Nat) : Int), (0 : Int) ≤ ((i : Nat) : Int) ∧ ((i : Nat) : Int) < ((List.length x1.1 : Nat) : Int), True] gamOK hT mixed h (by kernel_rfl) ⟨(by refine ⟨?_, ?_⟩ <;> (first | omega | (simp only [List.length_append, List.length_cons, List.length_nil, List.length_set, List.length_take, List.length_drop, List.length_replicate, List.length_map, Nat.min_def]; omega) | (simp; done) | (simp; omega) | done)), (by refine ⟨?_, ?_⟩ <;> (first | omega | (simp only [List.length_append, List.length_cons, List.length_nil, List.length_set, List.length_take, List.length_drop, List.length_replicate, List.length_map, Nat.min_def]; omega) | (simp; done) | (simp; omega) | done)), trivial, trivial⟩ ?_
              intro a w h
              refine then_normal ?_
              refine at_test (!((Sh.eqB s86) (x0.1.getD i (0, [])) (x1.1.getD i (0, [])))) h (by kernel_rfl) (fun h7 => ?_) (fun h7 => ?_)
              · replace h7 : ((Sh.eqB s86) (x0.1.getD i (0, [])) (x1.1.getD i (0, []))) = false := notT h7
                refine wp_seq ?_
                refine at_regq (T := S_spec_EqualSources_tab) [] { ts := [2, 3, 4, 5], os := [1, 2] } [] gamOK hT h (by kernel_rfl) trivial ?_
                intro a w h
                refine then_normal ?_
                refine wp_ret ?_
                refine in_ret ?_
                refine then_ret ?_
                have hs8 : (Sh.eqB s30 x0.1 x1.1) = false := by exact Sh.eqB_ne (s := s30) (fun e => by simp_all [Sh.eqB_self])
                refine then_ret ?_
                refine in_ret ?_
                refine then_ret ?_
                exact at_return (S := S_spec_EqualSources) (x := (x0, x1, ())) (false, ()) [] h (by kernel_rfl) trivial (congrArg (fun z => (z, ())) (show (false) = (Sh.eqB s73) x0 x1 from by (show _ = Sh.eqB s73 x0 x1; first | exact (Sh.eqB_ne (fun e => by subst e; simp_all [Sh.eqB_self, allEq])).symm | exact ((Sh.eqB_iff s73).2 (Prod.ext (by first | assumption | exact of_decide_eq_true (by assumption) | exact Sh.of_eqB (by assumption)) (Prod.ext ((Sh.eqB_iff s67).1 (by simp_all [allEq, Sh.eqB])) (Prod.ext (by first | assumption | exact of_decide_eq_true (by assumption) | exact Sh.of_eqB (by assumption)) (Prod.ext (by first | assumption | exact of_decide_eq_true (by assumption) | exact Sh.of_eqB (by assumption)) (by first | assumption | exact of_decide_eq_true (by assumption) | exact Sh.of_eqB (by assumption))))))).symm)))
              · replace h7 : ((Sh.eqB s86) (x0.1.getD i (0, [])) (x1.1.getD i (0, []))) = true := notF h7
                refine wp_skip ?_
                refine in_normal ?_
                refine then_normal ?_
                refine at_regq (T := S_spec_EqualSources_tab) [{}, { nw := true }] { ts := [2, 3, 4, 5], os := [1, 2] } [I64 (((i : Nat) : Int) + 1)] gamOK hT h (by kernel_rfl) ⟨⟨by first | omega | (simp only [List.length_append, List.length_cons, List.length_nil, List.length_set, List.length_take, List.length_drop, List.length_replicate, List.length_map, Nat.min_def]; omega) | (simp; done) | (simp; omega) | done, by first | omega | (simp only [List.length_append, List.length_cons, List.length_nil, List.length_set, List.length_take, List.length_drop, List.length_replicate, List.length_map, Nat.min_def]; omega) | (simp; done) | (simp; omega) | done⟩, trivial⟩ ?_
                intro a w h
                replace h := at_out (σ' := ⟨[(2, aP 1 0), (3, aP 2 0), (4, aB false), (5, aI (((i : Nat) : Int) + 1))], [(1, oX 73 [.ro s86 x0.1, cI x0.2.1.1, cI x0.2.1.2.1, cI x0.2.1.2.2.1, cI x0.2.1.2.2.2, .ro s122 x0.2.2.1, .ro s212 x0.2.2.2.1, cI x0.2.2.2.2]), (2, oX 73 [.ro s86 x1.1, cI x1.2.1.1, cI x1.2.1.2.1, cI x1.2.1.2.2.1, cI x1.2.1.2.2.2, .ro s122 x1.2.2.1, .ro s212 x1.2.2.2.1, cI x1.2.2.2.2])]⟩) { ts := [2, 3, 4, 5], os := [1, 2] } h (by kernel_rfl)
                exact ⟨i + 1, at_eq h (st_congr1 (fun (d0 : Int) => (⟨[(2, aP 1 0), (3, aP 2 0), (4, aB false), (5, aI d0)], [(1, oX 73 [.ro s86 x0.1, cI x0.2.1.1, cI x0.2.1.2.1, cI x0.2.1.2.2.1, cI x0.2.1.2.2.2, .ro s122 x0.2.2.1, .ro s212 x0.2.2.2.1, cI x0.2.2.2.2]), (2, oX 73 [.ro s86 x1.1, cI x1.2.1.1, cI x1.2.1.2.1, cI x1.2.1.2.2.1, cI x1.2.1.2.2.2, .ro s122 x1.2.2.1, .ro s212 x1.2.2.2.1, cI x1.2.2.2.2])]⟩ : St)) (show (((i : Nat) : Int) + 1 : Int) = (((i + 1) : Nat) : Int) from by first | with_reducible rfl | (omega) | rfl)), (by exact ⟨by omega, eqTo_step (z := (0, [])) (by omega) (by omega) hok0.2 (Sh.of_eqB (by assumption))⟩), (by omega)⟩
            · replace h6 : ¬ (((i : Nat) : Int) < ((List.length x0.1 : Nat) : Int)) := of_decide_eq_false h6
              refine wp_exit ?_
              refine then_exit ?_
              have hs9 : (Sh.eqB s30 x0.1 x1.1) = true := by (have e := hok0.2; rw [take_all (by omega), take_all (by omega)] at e; exact (Sh.eqB_iff s30).2 e)
              refine then_exit ?_
              refine in_hit ?_
              refine then_normal ?_
              refine wp_seq ?_
              refine wp_seq ?_
              refine at_regq (T := S_spec_EqualSources_tab) [] { ts := [2, 3, 4, 6], os := [1, 2] } [] gamOK hT h (by kernel_rfl) trivial ?_
              intro a w h
              refine then_normal ?_
              refine wp_block ?_
              replace h := at_out (σ' := ⟨[(2, aP 1 0), (3, aP 2 0), (4, aB false), (6, aI 0)], [(1, oX 73 [.ro s86 x0.1, cI x0.2.1.1, cI x0.2.1.2.1, cI x0.2.1.2.2.1, cI x0.2.1.2.2.2, .ro s122 x0.2.2.1, .ro s212 x0.2.2.2.1, cI x0.2.2.2.2]), (2, oX 73 [.ro s86 x1.1, cI x1.2.1.1, cI x1.2.1.2.1, cI x1.2.1.2.2.1, cI x1.2.1.2.2.2, .ro s122 x1.2.2.1, .ro s212 x1.2.2.2.1, cI x1.2.2.2.2])]⟩) { ts := [2, 3, 4, 6], os := [1, 2] } h (by kernel_rfl)
              refine at_loop (fun i : Nat => (⟨[(2, aP 1 0), (3, aP 2 0), (4, aB false), (6, aI ((i : Nat) : Int))], [(1, oX 73 [.ro s86 x0.1, cI x0.2.1.1, cI x0.2.1.2.1, cI x0.2.1.2.2.1, cI x0.2.1.2.2.2, .ro s122 x0.2.2.1, .ro s212 x0.2.2.2.1, cI x0.2.2.2.2]), (2, oX 73 [.ro s86 x1.1, cI x1.2.1.1, cI x1.2.1.2.1, cI x1.2.1.2.2.1, cI x1.2.1.2.2.2, .ro s122 x1.2.2.1, .ro s212 x1.2.2.2.1, cI x1.2.2.2.2])]⟩ : St)) (fun i => (i ≤ List.length x0.2.2.1 ∧ List.take i x0.2.2.1 = List.take i x1.2.2.1)) (fun i => List.length x0.2.2.1 - i) (0) h (st_congr1 (fun (d0 : Int) => (⟨[(2, aP 1 0), (3, aP 2 0), (4, aB false), (6, aI d0)], [(1, oX 73 [.ro s86 x0.1, cI x0.2.1.1, cI x0.2.1.2.1, cI x0.2.1.2.2.1, cI x0.2.1.2.2.2, .ro s122 x0.2.2.1, .ro s212 x0.2.2.2.1, cI x0.2.2.2.2]), (2, oX 73 [.ro s86 x1.1, cI x1.2.1.1, cI x1.2.1.2.1, cI x1.2.1.2.2.1, cI x1.2.1.2.2.2, .ro s122 x1.2.2.1, .ro s212 x1.2.2.2.1, cI x1.2.2.2.2])]⟩ : St)) (show (0 : Int) = (((0) : Nat) : Int) from by first | with_reducible rfl | (rfl) | rfl)) (by exact ⟨Nat.zero_le _, rfl⟩) ?_
              intro i a w hok1 h
              refine wp_seq ?_
              refine wp_seq ?_
              refine at_regq (T := S_spec_EqualSources_tab) [] { ts := [2, 3, 4, 6, 68], os := [1, 2] } [] gamOK hT h (by kernel_rfl) trivial ?_
              intro a w h
              refine then_normal ?_
              refine at_test (decide (((i : Nat) : Int) < ((List.length x0.2.2.1 : Nat) : Int))) h (by kernel_rfl) (fun h10 => ?_) (fun h10 => ?_)
              · replace h10 : ((i : Nat) : Int) < ((List.length x0.2.2.1 : Nat) : Int) := of_decide_eq_true h10
                refine wp_skip ?_
                refine then_normal ?_
                refine wp_seq ?_
                refine wp_block ?_
                refine wp_seq ?_
                refine at_anyq (T := S_spec_EqualSources_tab) [{}, {}, {}, {}, {}, {}, {}, {}, {}, {}, {}, {}] { ts := [2, 3, 4, 6, 82], os := [1, 2] } [(0 : Int) ≤ ((i : Nat) : Int) ∧ ((i : Nat) : Int) < ((List.length x0.2.2.1 : Nat) : Int), (0 : Int) ≤ ((i : Nat) : Int) ∧ ((i : Nat) : Int) < ((List.length x1.2.2.1 : Nat) : Int), True] gamOK hT mixed h (by kernel_rfl) ⟨(by refine ⟨?_, ?_⟩ <;> (first | omega | (simp only [List.length_append, List.length_cons, List.length_nil, List.length_set, List.length_take, List.length_drop, List.length_replicate, List.length_map, Nat.min_def]; omega) | (simp; done) | (simp; omega) | done)), (by refine ⟨?_, ?_⟩ <;> (first | omega | (simp only [List.length_append, List.length_cons, List.length_nil, List.length_set, List.length_take, List.length_drop, List.length_replicate, List.length_map, Nat.min_def]; omega) | (simp; done) | (simp; omega) | done)), trivial, trivial⟩ ?_
                intro a w h
                refine then_normal ?_
                refine at_test (!((Sh.eqB s122) (x0.2.2.1.getD i (0, (0, (0, ([], 0))))) (x1.2.2.1.getD i (0, (0, (0, ([], 0))))))) h (by kernel_rfl) (fun h11 => ?_) (fun h11 => ?_)
                · replace h11 : ((Sh.eqB s122) (x0.2.2.1.getD i (0, (0, (0, ([], 0))))) (x1.2.2.1.getD i (0, (0, (0, ([], 0)))))) = false := notT h11
                  refine wp_seq ?_
                  refine at_reg (T := S_spec_EqualSources_tab) [] { ts := [2, 3, 4, 6], os := [1, 2] } ⟨[(2, aP 1 0), (3, aP 2 0), (4, aB false), (6, aI ((i : Nat) : Int))], [(1, oX 73 [.ro s86 x0.1, cI x0.2.1.1, cI x0.2.1.2.1, cI x0.2.1.2.2.1, cI x0.2.1.2.2.2, .ro s122 x0.2.2.1, .ro s212 x0.2.2.2.1, cI x0.2.2.2.2]), (2, oX 73 [.ro s86 x1.1, cI x1.2.1.1, cI x1.2.1.2.1, cI x1.2.1.2.2.1, cI x1.2.1.2.2.2, .ro s122 x1.2.2.1, .ro s212 x1.2.2.2.1, cI x1.2.2.2.2])]⟩ [] gamOK hT h (by kernel_rfl) trivial ?_
                  intro a w h
                  refine then_normal ?_
                  refine wp_ret ?_
                  refine in_ret ?_
                  refine then_ret ?_
                  have hs12 : (Sh.eqB s68 x0.2.2.1 x1.2.2.1) = false := by exact Sh.eqB_ne (s := s68) (fun e => by simp_all [Sh.eqB_self])
                  refine then_ret ?_
                  refine in_ret ?_
                  refine then_ret ?_
                  exact at_return (S := S_spec_EqualSources) (x := (x0, x1, ())) (false, ()) [] h (by kernel_rfl) trivial (congrArg (fun z => (z, ())) (show (false) = (Sh.eqB s73) x0 x1 from by (show _ = Sh.eqB s73 x0 x1; first | exact (Sh.eqB_ne (fun e => by subst e; simp_all [Sh.eqB_self, allEq])).symm | exact ((Sh.eqB_iff s73).2 (Prod.ext (by first | assumption | exact of_decide_eq_true (by assumption) | exact Sh.of_eqB (by assumption)) (Prod.ext ((Sh.eqB_iff s67).1 (by simp_all [allEq, Sh.eqB])) (Prod.ext (by first | assumption | exact of_decide_eq_true (by assumption) | exact Sh.of_eqB (by assumption)) (Prod.ext (by first | assumption | exact of_decide_eq_true (by assumption) | exact Sh.of_eqB (by assumption)) (by first | assumption | exact of_decide_eq_true (by assumption) | exact Sh.of_eqB (by assumption))))))).symm)))
                · replace h11 : ((Sh.eqB s122) (x0.2.2.1.getD i (0, (0, (0, ([], 0))))) (x1.2.2.1.getD i (0, (0, (0, ([], 0)))))) = true := notF h11
                  refine wp_skip ?_
                  refine in_normal ?_
                  refine then_normal ?_
                  refine at_reg (T := S_spec_EqualSources_tab) [{}, { nw := true }] { ts := [2, 3, 4, 6], os := [1, 2] } ⟨[(2, aP 1 0), (3, aP 2 0), (4, aB false), (6, aI (((i : Nat) : Int) + 1))], [(1, oX 73 [.ro s86 x0.1, cI x0.2.1.1, cI x0.2.1.2.1, cI x0.2.1.2.2.1, cI x0.2.1.2.2.2, .ro s122 x0.2.2.1, .ro s212 x0.2.2.2.1, cI x0.2.2.2.2]), (2, oX 73 [.ro s86 x1.1, cI x1.2.1.1, cI x1.2.1.2.1, cI x1.2.1.2.2.1, cI x1.2.1.2.2.2, .ro s122 x1.2.2.1, .ro s212 x1.2.2.2.1, cI x1.2.2.2.2])]⟩ [I64 (((i : Nat) : Int) + 1)] gamOK hT h (by kernel_rfl) ⟨⟨by first | omega | (simp only [List.length_append, List.length_cons, List.length_nil, List.length_set, List.length_take, List.length_drop, List.length_replicate, List.length_map, Nat.min_def]; omega) | (simp; done) | (simp; omega) | done, by first | omega | (simp only [List.length_append, List.length_cons, List.length_nil, List.length_set, List.length_take, List.length_drop, List.length_replicate, List.length_map, Nat.min_def]; omega) | (simp; done) | (simp; omega) | done⟩, trivial⟩ ?_
                  intro a w h
                  replace h := at_out (σ' := ⟨[(2, aP 1 0), (3, aP 2 0), (4, aB false), (6, aI (((i : Nat) : Int) + 1))], [(1, oX 73 [.ro s86 x0.1, cI x0.2.1.1, cI x0.2.1.2.1, cI x0.2.1.2.2.1, cI x0.2.1.2.2.2, .ro s122 x0.2.2.1, .ro s212 x0.2.2.2.1, cI x0.2.2.2.2]), (2, oX 73 [.ro s86 x1.1, cI x1.2.1.1, cI x1.2.1.2.1, cI x1.2.1.2.2.1, cI x1.2.1.2.2.2, .ro s122 x1.2.2.1, .ro s212 x1.2.2.2.1, cI x1.2.2.2.2])]⟩) { ts := [2, 3, 4, 6], os := [1, 2] } h (by kernel_rfl)
                  exact ⟨i + 1, at_eq h (st_congr1 (fun (d0 : Int) => (⟨[(2, aP 1 0), (3, aP 2 0), (4, aB false), (6, aI d0)], [(1, oX 73 [.ro s86 x0.1, cI x0.2.1.1, cI x0.2.1.2.1, cI x0.2.1.2.2.1, cI x0.2.1.2.2.2, .ro s122 x0.2.2.1, .ro s212 x0.2.2.2.1, cI x0.2.2.2.2]), (2, oX 73 [.ro s86 x1.1, cI x1.2.1.1, cI x1.2.1.2.1, cI x1.2.1.2.2.1, cI x1.2.1.2.2.2, .ro s122 x1.2.2.1, .ro s212 x1.2.2.2.1, cI x1.2.2.2.2])]⟩ : St)) (show (((i : Nat) : Int) + 1 : Int) = (((i + 1) : Nat) : Int) from by first | with_reducible rfl | (omega) | rfl)), (by exact ⟨by omega, eqTo_step (z := (0, (0, (0, ([], 0))))) (by omega) (by omega) hok1.2 (Sh.of_eqB (by assumption))⟩), (by omega)⟩
              · replace h10 : ¬ (((i : Nat) : Int) < ((List.length x0.2.2.1 : Nat) : Int)) := of_decide_eq_false h10
                refine wp_exit ?_
                refine then_exit ?_
                have hs13 : (Sh.eqB s68 x0.2.2.1 x1.2.2.1) = true := by (have e := hok1.2; rw [take_all (by omega), take_all (by omega)] at e; exact (Sh.eqB_iff s68).2 e)
                refine then_exit ?_
                refine in_hit ?_
                refine then_normal ?_
                refine wp_seq ?_
                refine at_regq (T := S_spec_EqualSources_tab) [] { ts := [4], os := [] } [] gamOK hT h (by kernel_rfl) trivial ?_
                intro a w h
                refine then_normal ?_
                refine wp_ret ?_
                exact at_return (S := S_spec_EqualSources) (x := (x0, x1, ())) (true, ()) [] h (by kernel_rfl) trivial (congrArg (fun z => (z, ())) (show (true) = (Sh.eqB s73) x0 x1 from by (show _ = Sh.eqB s73 x0 x1; first | exact (Sh.eqB_ne (fun e => by subst e; simp_all [Sh.eqB_self, allEq])).symm | exact ((Sh.eqB_iff s73).2 (Prod.ext (by first | assumption | exact of_decide_eq_true (by assumption) | exact Sh.of_eqB (by assumption)) (Prod.ext ((Sh.eqB_iff s67).1 (by simp_all [allEq, Sh.eqB])) (Prod.ext (by first | assumption | exact of_decide_eq_true (by assumption) | exact Sh.of_eqB (by assumption)) (Prod.ext (by first | assumption | exact of_decide_eq_true (by assumption) | exact Sh.of_eqB (by assumption)) (by first | assumption | exact of_decide_eq_true (by assumption) | exact Sh.of_eqB (by assumption))))))).symm)))
        · skip
          refine at_regq (T := S_spec_EqualSources_tab) [{}, {}, {}, {}, { hint := some (aB false) }, {}, {}, {}, {}, {}, { hint := some (aB false) }, {}, {}, {}, {}, {}, {}, {}, { hint := some (aB false) }, {}, {}, {}, {}, {}, {}, {}, {}, { hint := some (aB true) }] { ts := [2, 3, 4, 44], os := [1, 2] } [(AV.p (.c (.v (.bool (!(allEq [x0.2.1.1, x0.2.1.2.1, x0.2.1.2.2.1, x0.2.1.2.2.2] [x1.2.1.1, x1.2.1.2.1, x1.2.1.2.2.1, x1.2.1.2.2.2]))))) = AV.p (.c (.v (.bool false)))), (AV.p (.c (.v (.bool (!decide (x0.2.2.2.2 = x1.2.2.2.2))))) = AV.p (.c (.v (.bool false)))), True, (AV.p (.c (.v (.bool (!((Sh.eqB s71) x0.2.2.2.1 x1.2.2.2.1))))) = AV.p (.c (.v (.bool false)))), (AV.p (.c (.v (.bool (!decide (((List.length x0.1 : Nat) : Int) = ((List.length x1.1 : Nat) : Int)))))) = AV.p (.c (.v (.bool true))))] gamOK hT h (by kernel_rfl) ⟨hint_bool (h1), hint_bool (ndT h2), trivial, hint_bool (h3), hint_bool (ndF h4), trivial⟩ ?_
          intro a w h
          refine then_normal ?_
          refine at_test true h (by kernel_rfl) (fun hh => ?_) (fun hh => nomatch hh)
          refine wp_seq ?_
          refine at_regq (T := S_spec_EqualSources_tab) [] { ts := [2, 3, 4], os := [1, 2] } [] gamOK hT h (by kernel_rfl) trivial ?_
          intro a w h
          refine then_normal ?_
          refine wp_ret ?_
          refine then_ret ?_
          exact at_return (S := S_spec_EqualSources) (x := (x0, x1, ())) (false, ()) [] h (by kernel_rfl) trivial (congrArg (fun z => (z, ())) (show (false) = (Sh.eqB s73) x0 x1 from by (show _ = Sh.eqB s73 x0 x1; first | exact (Sh.eqB_ne (fun e => by subst e; simp_all [Sh.eqB_self, allEq])).symm | exact ((Sh.eqB_iff s73).2 (Prod.ext (by first | assumption | exact of_decide_eq_true (by assumption) | exact Sh.of_eqB (by assumption)) (Prod.ext ((Sh.eqB_iff s67).1 (by simp_all [allEq, Sh.eqB])) (Prod.ext (by first | assumption | exact of_decide_eq_true (by assumption) | exact Sh.of_eqB (by assumption)) (Prod.ext (by first | assumption | exact of_decide_eq_true (by assumption) | exact Sh.of_eqB (by assumption)) (by first | assumption | exact of_decide_eq_true (by assumption) | exact Sh.of_eqB (by assumption))))))).symm)))
    · skip
      refine at_regq (T := S_spec_EqualSources_tab) [{}, {}, {}, {}, { hint := some (aB false) }, {}, {}, {}, {}, {}, { hint := some (aB true) }] { ts := [2, 3, 4, 44], os := [1, 2] } [(AV.p (.c (.v (.bool (!(allEq [x0.2.1.1, x0.2.1.2.1, x0.2.1.2.2.1, x0.2.1.2.2.2] [x1.2.1.1, x1.2.1.2.1, x1.2.1.2.2.1, x1.2.1.2.2.2]))))) = AV.p (.c (.v (.bool false)))), (AV.p (.c (.v (.bool (!decide (x0.2.2.2.2 = x1.2.2.2.2))))) = AV.p (.c (.v (.bool true))))] gamOK hT h (by kernel_rfl) ⟨hint_bool (h1), hint_bool (ndF h2), trivial⟩ ?_
      intro a w h
      refine then_normal ?_
      refine at_test true h (by kernel_rfl) (fun hh => ?_) (fun hh => nomatch hh)
      refine wp_seq ?_
      refine at_regq (T := S_spec_EqualSources_tab) [] { ts := [2, 3, 4], os := [1, 2] } [] gamOK hT h (by kernel_rfl) trivial ?_
      intro a w h
      refine then_normal ?_
      refine wp_ret ?_
      refine then_ret ?_
      exact at_return (S := S_spec_EqualSources) (x := (x0, x1, ())) (false, ()) [] h (by kernel_rfl) trivial (congrArg (fun z => (z, ())) (show (false) = (Sh.eqB s73) x0 x1 from by (show _ = Sh.eqB s73 x0 x1; first | exact (Sh.eqB_ne (fun e => by subst e; simp_all [Sh.eqB_self, allEq])).symm | exact ((Sh.eqB_iff s73).2 (Prod.ext (by first | assumption | exact of_decide_eq_true (by assumption) | exact Sh.of_eqB (by assumption)) (Prod.ext ((Sh.eqB_iff s67).1 (by simp_all [allEq, Sh.eqB])) (Prod.ext (by first | assumption | exact of_decide_eq_true (by assumption) | exact Sh.of_eqB (by assumption)) (Prod.ext (by first | assumption | exact of_decide_eq_true (by assumption) | exact Sh.of_eqB (by assumption)) (by first | assumption | exact of_decide_eq_true (by assumption) | exact Sh.of_eqB (by assumption))))))).symm)))

def D_laws_FnExactEqualSources := (fun (_ : T64) (_ : T64) => true)
def S_laws_FnExactEqualSources : Sum := { fid := 7, dom := [s64, s64], cod := [(.bool 4)], dp := true, fz := false, pre := fun x => (fun (x0 : T64) (x1 : T64) => Sh.i64 s64 x0 ∧ Sh.i64 s64 x1) x.1 x.2.1, g := fun x => ((D_laws_FnExactEqualSources x.1 x.2.1), ()) }
def S_laws_FnExactEqualSources_tab : List (Nat × Sum) := [(35, S_laws_szSource), (37, S_laws_toSource), (51, S_spec_EqualSources), (52, S_impl_EqualSources), (40, S_laws_eqSource)]
theorem S_laws_FnExactEqualSources_ok : FnOK Try.prog 7 S_laws_FnExactEqualSources := by
  refine at_enter 45 (fun x => ⟨[(0, aG [.ro s82 x.1.1, cI x.1.2.1.1, cI x.1.2.1.2.1, cI x.1.2.1.2.2.1, cI x.1.2.1.2.2.2, .ro s116 x.1.2.2.1, .ro s232 x.1.2.2.2.1, cI x.1.2.2.2.2]), (1, aG [.ro s82 x.2.1.1, cI x.2.1.2.1.1, cI x.2.1.2.1.2.1, cI x.2.1.2.1.2.2.1, cI x.2.1.2.1.2.2.2, .ro s116 x.2.1.2.2.1, .ro s232 x.2.1.2.2.2.1, cI x.2.1.2.2.2.2])], []⟩) Try.func7 rfl (by kernel_rfl) (fun x => rfl) ?_
  rintro w0 Z0 ⟨x0, x1, u⟩ a w
  revert x0 x1
  intro (x0 : T64) (x1 : T64) hpre hlens h
  replace h : At w0 Z0 [] 45 ⟨[(0, aG [.ro s82 x0.1, cI x0.2.1.1, cI x0.2.1.2.1, cI x0.2.1.2.2.1, cI x0.2.1.2.2.2, .ro s116 x0.2.2.1, .ro s232 x0.2.2.2.1, cI x0.2.2.2.2]), (1, aG [.ro s82 x1.1, cI x1.2.1.1, cI x1.2.1.2.1, cI x1.2.1.2.2.1, cI x1.2.1.2.2.2, .ro s116 x1.2.2.1, .ro s232 x1.2.2.2.1, cI x1.2.2.2.2])], []⟩ a w := h
  replace hpre : (fun (x0 : T64) (x1 : T64) => Sh.i64 s64 x0 ∧ Sh.i64 s64 x1) x0 x1 := hpre
  have hl1 : List.length x0.1 ≤ 9223372036854775807 := hlens.1.1.1
  have hl2 : List.length x0.2.2.1 ≤ 9223372036854775807 := hlens.1.2.2.1.1
  have hl3 : List.length x0.2.2.2.1 ≤ 9223372036854775807 := hlens.1.2.2.2.1.1
  have hl4 : List.length x1.1 ≤ 9223372036854775807 := hlens.2.1.1.1
  have hl5 : List.length x1.2.2.1 ≤ 9223372036854775807 := hlens.2.1.2.2.1.1
  have hl6 : List.length x1.2.2.2.1 ≤ 9223372036854775807 := hlens.2.1.2.2.2.1.1
  have hT : TabOK Try.prog S_laws_FnExactEqualSources_tab := (.cons S_laws_szSource_ok (.cons S_laws_toSource_ok (.cons S_spec_EqualSources_ok (.cons S_impl_EqualSources_ok (.cons S_laws_eqSource_ok .nil)))))
  have hq0 : Sh.sz s73 x0 = Sh.sz s64 x0 := rfl
  have hb0 : Sh.ctT s73 x0 ≤ 17 * Sh.sz s73 x0 := Sh.ctT_le2 s73 x0
  have hz0 : Sh.ct s73 x0 ≤ 17 * (1 + Sh.sz s73 x0) := Sh.ct_le s73 x0
  have ht0 : Sh.sz s64 x0 = ((Sh.sz s24 x0.1) + ((0 + (0 + (0 + 0))) + ((Sh.sz s59 x0.2.2.1) + ((Sh.sz s60 x0.2.2.2.1) + 0)))) := rfl
  have hs0_1 : Sh.sz s24 x0.1 = List.length x0.1 + ctL (Sh.sz s82) x0.1 := rfl
  have hs0_2 : Sh.sz s59 x0.2.2.1 = List.length x0.2.2.1 + ctL (Sh.sz s116) x0.2.2.1 := rfl
  have hs0_3 : Sh.sz s60 x0.2.2.2.1 = List.length x0.2.2.2.1 := sz_flat (by rfl) _
  have hq1 : Sh.sz s73 x1 = Sh.sz s64 x1 := rfl
  have hb1 : Sh.ctT s73 x1 ≤ 17 * Sh.sz s73 x1 := Sh.ctT_le2 s73 x1
  have hz1 : Sh.ct s73 x1 ≤ 17 * (1 + Sh.sz s73 x1) := Sh.ct_le s73 x1
  have ht1 : Sh.sz s64 x1 = ((Sh.sz s24 x1.1) + ((0 + (0 + (0 + 0))) + ((Sh.sz s59 x1.2.2.1) + ((Sh.sz s60 x1.2.2.2.1) + 0)))) := rfl
  have hs1_1 : Sh.sz s24 x1.1 = List.length x1.1 + ctL (Sh.sz s82) x1.1 := rfl
  have hs1_2 : Sh.sz s59 x1.2.2.1 = List.length x1.2.2.1 + ctL (Sh.sz s116) x1.2.2.1 := rfl
  have hs1_3 : Sh.sz s60 x1.2.2.2.1 = List.length x1.2.2.2.1 := sz_flat (by rfl) _
  refine wp_seq ?_
  refine at_regq (T := S_laws_FnExactEqualSources_tab) [{ ids := [1] }, { ids := [2] }] { ts := [2, 3, 4], os := [1, 2] } [] gamOK hT h (by kernel_rfl) trivial ?_
  intro a w h
  refine then_normal ?_
  refine wp_seq ?_
  refine at_regq (T := S_laws_FnExactEqualSources_tab) [] { ts := [2, 3, 4, 5], os := [1, 2] } [] gamOK hT h (by kernel_rfl) trivial ?_
  intro a w h
  refine then_normal ?_
  refine wp_seq ?_
  refine at_regq (T := S_laws_FnExactEqualSources_tab) [] { ts := [2, 3, 4, 5], os := [1, 2] } [(pSz s64) x0 1048576] gamOK hT h (by kernel_rfl) ⟨(by (show (0 : Int) ≤ _ ∧ _ ≤ (9223372036854775807 : Int); constructor <;> omega)), trivial⟩ ?_
  intro a w h
  refine then_normal ?_
  refine wp_seq ?_
  refine wp_seq ?_
  refine at_reg (T := S_laws_FnExactEqualSources_tab) [] { ts := [2, 3, 4, 5, 14], os := [1, 2] } ⟨[(2, aP 1 0), (3, aP 2 0), (4, aB false), (5, aI ((szD s64) x0 1048576)), (14, aB (decide (((szD s64) x0 1048576) < 0)))], [(1, oX 64 [.ro s82 x0.1, cI x0.2.1.1, cI x0.2.1.2.1, cI x0.2.1.2.2.1, cI x0.2.1.2.2.2, .ro s116 x0.2.2.1, .ro s232 x0.2.2.2.1, cI x0.2.2.2.2]), (2, oX 64 [.ro s82 x1.1, cI x1.2.1.1, cI x1.2.1.2.1, cI x1.2.1.2.2.1, cI x1.2.1.2.2.2, .ro s116 x1.2.2.1, .ro s232 x1.2.2.2.1, cI x1.2.2.2.2])]⟩ [] gamOK hT h (by kernel_rfl) trivial ?_
  intro a w h
  refine then_normal ?_
  refine at_test (decide (((szD s64) x0 1048576) < 0)) h (by kernel_rfl) (fun h1 => ?_) (fun h1 => ?_)
  · replace h1 : ((szD s64) x0 1048576) < 0 := of_decide_eq_true h1
    have hvh1 := szD_neg h1 (by omega)
    refine wp_seq ?_
    refine at_regq (T := S_laws_FnExactEqualSources_tab) [] { ts := [2, 3, 4, 5], os := [1, 2] } [] gamOK hT h (by kernel_rfl) trivial ?_
    intro a w h
    refine then_normal ?_
    refine wp_ret ?_
    refine then_ret ?_
    exact at_return (S := S_laws_FnExactEqualSources) (x := (x0, x1, ())) (true, ()) [] h (by kernel_rfl) trivial (congrArg (fun z => (z, ())) (show (true) = D_laws_FnExactEqualSources x0 x1 from by unfold D_laws_FnExactEqualSources; rfl))
  · replace h1 : ¬ (((szD s64) x0 1048576) < 0) := of_decide_eq_false h1
    have hvh1 := szD_val h1 (by omega)
    refine wp_skip ?_
    refine then_normal ?_
    refine wp_seq ?_
    refine at_regq (T := S_laws_FnExactEqualSources_tab) [] { ts := [2, 3, 4, 5], os := [1, 2] } [(pSz s64) x1 ((szD s64) x0 1048576)] gamOK hT h (by kernel_rfl) ⟨(by (show (0 : Int) ≤ _ ∧ _ ≤ (9223372036854775807 : Int); constructor <;> omega)), trivial⟩ ?_
    intro a w h
    refine then_normal ?_
    refine wp_seq ?_
    refine wp_seq ?_
    refine at_regq (T := S_laws_FnExactEqualSources_tab) [] { ts := [2, 3, 4, 19], os := [1, 2] } [] gamOK hT h (by kernel_rfl) trivial ?_
    intro a w h
    refine then_normal ?_
    refine at_test (decide (((szD s64) x1 ((szD s64) x0 1048576)) < 0)) h (by kernel_rfl) (fun h2 => ?_) (fun h2 => ?_)
    · replace h2 : ((szD s64) x1 ((szD s64) x0 1048576)) < 0 := of_decide_eq_true h2
      have hvh2 := szD_neg h2 (by omega)
      refine wp_seq ?_
      refine at_regq (T := S_laws_FnExactEqualSources_tab) [] { ts := [2, 3, 4], os := [1, 2] } [] gamOK hT h (by kernel_rfl) trivial ?_
      intro a w h
      refine then_normal ?_
      refine wp_ret ?_
      refine then_ret ?_
      exact at_return (S := S_laws_FnExactEqualSources) (x := (x0, x1, ())) (true, ()) [] h (by kernel_rfl) trivial (congrArg (fun z => (z, ())) (show (true) = D_laws_FnExactEqualSources x0 x1 from by unfold D_laws_FnExactEqualSources; rfl))
    · replace h2 : ¬ (((szD s64) x1 ((szD s64) x0 1048576)) < 0) := of_decide_eq_false h2
      have hvh2 := szD_val h2 (by omega)
      refine wp_skip ?_
      refine then_normal ?_
      refine wp_seq ?_
      refine at_anyq (T := S_laws_FnExactEqualSources_tab) [{}, { ids := [3, 4, 5] }, {}, { ids := [6, 7, 8] }, {}, {}] { ts := [2, 3, 4, 6], os := [1, 2] } [(pTo s64) x0, (pTo s64) x1, True] gamOK hT mixed h (by kernel_rfl) ⟨(by (show Sh.sz _ _ ≤ 1048576; omega)), (by (show Sh.sz _ _ ≤ 1048576; omega)), trivial, trivial⟩ ?_
      intro a w h
      refine then_normal ?_
      refine wp_seq ?_
      refine at_reg (T := S_laws_FnExactEqualSources_tab) [{}, { ids := [9, 10, 11] }, { ids := [12] }] { ts := [2, 3, 4, 6, 7], os := [1, 2, 9, 10, 11, 12] } ⟨[(2, aP 1 0), (3, aP 2 0), (4, aB false), (6, aB ((Sh.eqB s73) x0 x1)), (7, aP 12 0)], [(1, oX 64 [.ro s82 x0.1, cI x0.2.1.1, cI x0.2.1.2.1, cI x0.2.1.2.2.1, cI x0.2.1.2.2.2, .ro s116 x0.2.2.1, .ro s232 x0.2.2.2.1, cI x0.2.2.2.2]), (2, oX 64 [.ro s82 x1.1, cI x1.2.1.1, cI x1.2.1.2.1, cI x1.2.1.2.2.1, cI x1.2.1.2.2.2, .ro s116 x1.2.2.1, .ro s232 x1.2.2.2.1, cI x1.2.2.2.2]), (9, oR s86 x0.1), (10, oR s122 x0.2.2.1), (11, oR s212 x0.2.2.2.1), (12, oX 73 [.sl 9, cI x0.2.1.1, cI x0.2.1.2.1, cI x0.2.1.2.2.1, cI x0.2.1.2.2.2, .sl 10, .sl 11, cI x0.2.2.2.2])]⟩ [(pTo s64) x0] gamOK hT h (by kernel_rfl) ⟨(by (show Sh.sz _ _ ≤ 1048576; omega)), trivial⟩ ?_
      intro a w h
      refine then_normal ?_
      refine wp_seq ?_
      refine at_regq (T := S_laws_FnExactEqualSources_tab) [{}, { ids := [13, 14, 15] }, { ids := [16] }] { ts := [2, 3, 4, 6, 7, 8], os := [1, 2, 9, 10, 11, 12, 13, 14, 15, 16] } [(pTo s64) x1] gamOK hT h (by kernel_rfl) ⟨(by (show Sh.sz _ _ ≤ 1048576; omega)), trivial⟩ ?_
      intro a w h
      refine then_normal ?_
      refine wp_seq ?_
      refine at_regq (T := S_laws_FnExactEqualSources_tab) [] { ts := [2, 3, 4, 6, 7, 8, 9], os := [1, 2, 9, 10, 11, 12, 13, 14, 15, 16] } [True] gamOK hT h (by kernel_rfl) ⟨trivial, trivial⟩ ?_
      intro a w h
      refine then_normal ?_
      refine wp_seq ?_
      refine wp_seq ?_
      refine at_regq (T := S_laws_FnExactEqualSources_tab) [] { ts := [2, 3, 4, 7, 8, 34], os := [1, 2, 9, 10, 11, 12, 13, 14, 15, 16] } [] gamOK hT h (by kernel_rfl) trivial ?_
      intro a w h
      refine then_normal ?_
      refine at_test (!(((Sh.eqB s73) x0 x1) == ((Sh.eqB s73) x0 x1))) h (by kernel_rfl) (fun h3 => ?_) (fun h3 => ?_)
      · replace h3 : (((Sh.eqB s73) x0 x1) == ((Sh.eqB s73) x0 x1)) = false := notT h3
        refine wp_seq ?_
        refine at_reg (T := S_laws_FnExactEqualSources_tab) [] { ts := [2, 3, 4, 7, 8], os := [1, 2, 9, 10, 11, 12, 13, 14, 15, 16] } ⟨[(2, aP 1 0), (3, aP 2 0), (4, aB false), (7, aP 12 0), (8, aP 16 0)], [(1, oX 64 [.ro s82 x0.1, cI x0.2.1.1, cI x0.2.1.2.1, cI x0.2.1.2.2.1, cI x0.2.1.2.2.2, .ro s116 x0.2.2.1, .ro s232 x0.2.2.2.1, cI x0.2.2.2.2]), (2, oX 64 [.ro s82 x1.1, cI x1.2.1.1, cI x1.2.1.2.1, cI x1.2.1.2.2.1, cI x1.2.1.2.2.2, .ro s116 x1.2.2.1, .ro s232 x1.2.2.2.1, cI x1.2.2.2.2]), (9, oR s86 x0.1), (10, oR s122 x0.2.2.1), (11, oR s212 x0.2.2.2.1), (12, oX 73 [.sl 9, cI x0.2.1.1, cI x0.2.1.2.1, cI x0.2.1.2.2.1, cI x0.2.1.2.2.2, .sl 10, .sl 11, cI x0.2.2.2.2]), (13, oR s86 x1.1), (14, oR s122 x1.2.2.1), (15, oR s212 x1.2.2.2.1), (16, oX 73 [.sl 13, cI x1.2.1.1, cI x1.2.1.2.1, cI x1.2.1.2.2.1, cI x1.2.1.2.2.2, .sl 14, .sl 15, cI x1.2.2.2.2])]⟩ [] gamOK hT h (by kernel_rfl) trivial ?_
        intro a w h
        refine then_normal ?_
        refine wp_ret ?_
        refine then_ret ?_
        exact at_return (S := S_laws_FnExactEqualSources) (x := (x0, x1, ())) (false, ()) [] h (by kernel_rfl) trivial (congrArg (fun z => (z, ())) (show (false) = D_laws_FnExactEqualSources x0 x1 from by unfold D_laws_FnExactEqualSources; exact absurd (beqT (show _ = _ from by first | rfl | (rfl))) (neT h3)))
      · replace h3 : (((Sh.eqB s73) x0 x1) == ((Sh.eqB s73) x0 x1)) = true := notF h3
        refine wp_skip ?_
        refine then_normal ?_
        refine wp_seq ?_
        refine wp_seq ?_
        refine at_any (T := S_laws_FnExactEqualSources_tab) [{}, {}, { ids := [17, 18, 19] }, {}, {}] { ts := [3, 4, 8, 39], os := [2, 13, 14, 15, 16] } ⟨[(3, aP 2 0), (4, aB false), (8, aP 16 0), (39, aB (!((Sh.eqB s73) x0 x0)))], [(2, oX 64 [.ro s82 x1.1, cI x1.2.1.1, cI x1.2.1.2.1, cI x1.2.1.2.2.1, cI x1.2.1.2.2.2, .ro s116 x1.2.2.1, .ro s232 x1.2.2.2.1, cI x1.2.2.2.2]), (13, oR s86 x1.1), (14, oR s122 x1.2.2.1), (15, oR s212 x1.2.2.2.1), (16, oX 73 [.sl 13, cI x1.2.1.1, cI x1.2.1.2.1, cI x1.2.1.2.2.1, cI x1.2.1.2.2.2, .sl 14, .sl 15, cI x1.2.2.2.2])]⟩ [(pTo s64) x0, True] gamOK hT mixed h (by kernel_rfl) ⟨(by (show Sh.sz _ _ ≤ 1048576; omega)), trivial, trivial⟩ ?_
        intro a w h
        refine then_normal ?_
        refine at_test (!((Sh.eqB s73) x0 x0)) h (by kernel_rfl) (fun h4 => ?_) (fun h4 => ?_)
        · replace h4 : ((Sh.eqB s73) x0 x0) = false := notT h4
          refine wp_seq ?_
          refine at_regq (T := S_laws_FnExactEqualSources_tab) [] { ts := [3, 4, 8], os := [2, 13, 14, 15, 16] } [] gamOK hT h (by kernel_rfl) trivial ?_
          intro a w h
          refine then_normal ?_
          refine wp_ret ?_
          refine then_ret ?_
          exact at_return (S := S_laws_FnExactEqualSources) (x := (x0, x1, ())) (false, ()) [] h (by kernel_rfl) trivial (congrArg (fun z => (z, ())) (show (false) = D_laws_FnExactEqualSources x0 x1 from by unfold D_laws_FnExactEqualSources; exact absurd ((Sh.eqB_iff _).2 (show _ = _ from by first | rfl | (rfl))) (neT h4)))
        · replace h4 : ((Sh.eqB s73) x0 x0) = true := notF h4
          refine wp_skip ?_
          refine then_normal ?_
          refine wp_seq ?_
          refine wp_seq ?_
          refine at_anyq (T := S_laws_FnExactEqualSources_tab) [{}, {}, { ids := [20, 21, 22] }, {}, {}] { ts := [4, 44], os := [] } [(pTo s64) x1, True] gamOK hT mixed h (by kernel_rfl) ⟨(by (show Sh.sz _ _ ≤ 1048576; omega)), trivial, trivial⟩ ?_
          intro a w h
          refine then_normal ?_
          refine at_test (!((Sh.eqB s73) x1 x1)) h (by kernel_rfl) (fun h5 => ?_) (fun h5 => ?_)
          · replace h5 : ((Sh.eqB s73) x1 x1) = false := notT h5
            refine wp_seq ?_
            refine at_regq (T := S_laws_FnExactEqualSources_tab) [] { ts := [4], os := [] } [] gamOK hT h (by kernel_rfl) trivial ?_
            intro a w h
            refine then_normal ?_
            refine wp_ret ?_
            refine then_ret ?_
            exact at_return (S := S_laws_FnExactEqualSources) (x := (x0, x1, ())) (false, ()) [] h (by kernel_rfl) trivial (congrArg (fun z => (z, ())) (show (false) = D_laws_FnExactEqualSources x0 x1 from by unfold D_laws_FnExactEqualSources; exact absurd ((Sh.eqB_iff _).2 (show _ = _ from by first | rfl | (rfl))) (neT h5)))
          · replace h5 : ((Sh.eqB s73) x1 x1) = true := notF h5
            refine wp_skip ?_
            refine then_normal ?_
            refine wp_seq ?_
            refine at_regq (T := S_laws_FnExactEqualSources_tab) [] { ts := [4], os := [] } [] gamOK hT h (by kernel_rfl) trivial ?_
            intro a w h
            refine then_normal ?_
            refine wp_ret ?_
            exact at_return (S := S_laws_FnExactEqualSources) (x := (x0, x1, ())) (true, ()) [] h (by kernel_rfl) trivial (congrArg (fun z => (z, ())) (show (true) = D_laws_FnExactEqualSources x0 x1 from by unfold D_laws_FnExactEqualSources; rfl))

theorem opn3 : OpensS Try.prog 3 (.int 3) := opensS_int Try.underlying3
theorem co3 : Try.prog.cellsOf 3 = 1 := by kernel_rfl
theorem opn22 : OpensS Try.prog 22 s22 := opensS_slice (a := (.int 3)) Try.underlying22 co3 opn3
theorem co22 : Try.prog.cellsOf 22 = 1 := by kernel_rfl
theorem opn80 : OpensS Try.prog 80 s80 := opensS_slice (a := s22) Try.underlying80 co22 opn22
theorem co80 : Try.prog.cellsOf 80 = 1 := by kernel_rfl
theorem co82 : Try.prog.cellsOf 82 = 2 := by kernel_rfl
theorem opn82 : OpensS Try.prog 82 s82 := by
  intro H enc w base spare held fuel cs x h
  obtain ⟨xs, n, _, _, hl, hlen, hf⟩ := DataW.trod_struct Try.underlying82 h
  obtain ⟨a0, k0, i0⟩ := opensS_field (a := (.int 3)) (i := 0) 0 1 hf hlen rfl rfl rfl co3 opn3
  obtain ⟨a1, k1, i1⟩ := opensS_field (a := s80) (i := 1) 1 1 hf hlen rfl rfl rfl co80 opn80
  rw [co82] at hl
  exact ⟨(a0, a1), (rdS_pair (off := 0) k0 (rdS_last (off := 1) k1 (by omega))), ⟨i0, i1⟩⟩
theorem opn24 : OpensS Try.prog 24 s24 := opensS_slice (a := s82) Try.underlying24 co82 opn82
theorem co24 : Try.prog.cellsOf 24 = 1 := by kernel_rfl
theorem co58 : Try.prog.cellsOf 58 = 4 := by kernel_rfl
theorem opn58 : OpensS Try.prog 58 s58 := by
  intro H enc w base spare held fuel cs x h
  obtain ⟨xs, n, _, _, hl, hlen, hf⟩ := DataW.trod_struct Try.underlying58 h
  obtain ⟨a0, k0, i0⟩ := opensS_field (a := (.int 3)) (i := 0) 0 1 hf hlen rfl rfl rfl co3 opn3
  obtain ⟨a1, k1, i1⟩ := opensS_field (a := (.int 3)) (i := 1) 1 1 hf hlen rfl rfl rfl co3 opn3
  obtain ⟨a2, k2, i2⟩ := opensS_field (a := (.int 3)) (i := 2) 2 1 hf hlen rfl rfl rfl co3 opn3
  obtain ⟨a3, k3, i3⟩ := opensS_field (a := (.int 3)) (i := 3) 3 1 hf hlen rfl rfl rfl co3 opn3
  rw [co58] at hl
  exact ⟨(a0, (a1, (a2, a3))), (rdS_pair (off := 0) k0 (rdS_pair (off := 1) k1 (rdS_pair (off := 2) k2 (rdS_last (off := 3) k3 (by omega))))), ⟨i0, ⟨i1, ⟨i2, i3⟩⟩⟩⟩
theorem co118 : Try.prog.cellsOf 118 = 3 := by kernel_rfl
theorem opn118 : OpensS Try.prog 118 s118 := by
  intro H enc w base spare held fuel cs x h
  obtain ⟨xs, n, _, _, hl, hlen, hf⟩ := DataW.trod_struct Try.underlying118 h
  obtain ⟨a0, k0, i0⟩ := opensS_field (a := (.int 3)) (i := 0) 0 1 hf hlen rfl rfl rfl co3 opn3
  obtain ⟨a1, k1, i1⟩ := opensS_field (a := s22) (i := 1) 1 1 hf hlen rfl rfl rfl co22 opn22
  obtain ⟨a2, k2, i2⟩ := opensS_field (a := s22) (i := 2) 2 1 hf hlen rfl rfl rfl co22 opn22
  rw [co118] at hl
  exact ⟨(a0, (a1, a2)), (rdS_pair (off := 0) k0 (rdS_pair (off := 1) k1 (rdS_last (off := 2) k2 (by omega)))), ⟨i0, ⟨i1, i2⟩⟩⟩
theorem opn39 : OpensS Try.prog 39 s39 := opensS_slice (a := s118) Try.underlying39 co118 opn118
theorem co39 : Try.prog.cellsOf 39 = 1 := by kernel_rfl
theorem co116 : Try.prog.cellsOf 116 = 5 := by kernel_rfl
theorem opn116 : OpensS Try.prog 116 s116 := by
  intro H enc w base spare held fuel cs x h
  obtain ⟨xs, n, _, _, hl, hlen, hf⟩ := DataW.trod_struct Try.underlying116 h
  obtain ⟨a0, k0, i0⟩ := opensS_field (a := (.int 3)) (i := 0) 0 1 hf hlen rfl rfl rfl co3 opn3
  obtain ⟨a1, k1, i1⟩ := opensS_field (a := (.int 3)) (i := 1) 1 1 hf hlen rfl rfl rfl co3 opn3
  obtain ⟨a2, k2, i2⟩ := opensS_field (a := (.int 3)) (i := 2) 2 1 hf hlen rfl rfl rfl co3 opn3
  obtain ⟨a3, k3, i3⟩ := opensS_field (a := s39) (i := 3) 3 1 hf hlen rfl rfl rfl co39 opn39
  obtain ⟨a4, k4, i4⟩ := opensS_field (a := (.int 3)) (i := 4) 4 1 hf hlen rfl rfl rfl co3 opn3
  rw [co116] at hl
  exact ⟨(a0, (a1, (a2, (a3, a4)))), (rdS_pair (off := 0) k0 (rdS_pair (off := 1) k1 (rdS_pair (off := 2) k2 (rdS_pair (off := 3) k3 (rdS_last (off := 4) k4 (by omega)))))), ⟨i0, ⟨i1, ⟨i2, ⟨i3, i4⟩⟩⟩⟩⟩
theorem opn59 : OpensS Try.prog 59 s59 := opensS_slice (a := s116) Try.underlying59 co116 opn116
theorem co59 : Try.prog.cellsOf 59 = 1 := by kernel_rfl
theorem co232 : Try.prog.cellsOf 232 = 3 := by kernel_rfl
theorem opn232 : OpensS Try.prog 232 s232 := by
  intro H enc w base spare held fuel cs x h
  obtain ⟨xs, n, _, _, hl, hlen, hf⟩ := DataW.trod_struct Try.underlying232 h
  obtain ⟨a0, k0, i0⟩ := opensS_field (a := (.int 3)) (i := 0) 0 1 hf hlen rfl rfl rfl co3 opn3
  obtain ⟨a1, k1, i1⟩ := opensS_field (a := (.int 3)) (i := 1) 1 1 hf hlen rfl rfl rfl co3 opn3
  obtain ⟨a2, k2, i2⟩ := opensS_field (a := (.int 3)) (i := 2) 2 1 hf hlen rfl rfl rfl co3 opn3
  rw [co232] at hl
  exact ⟨(a0, (a1, a2)), (rdS_pair (off := 0) k0 (rdS_pair (off := 1) k1 (rdS_last (off := 2) k2 (by omega)))), ⟨i0, ⟨i1, i2⟩⟩⟩
theorem opn60 : OpensS Try.prog 60 s60 := opensS_slice (a := s232) Try.underlying60 co232 opn232
theorem co60 : Try.prog.cellsOf 60 = 1 := by kernel_rfl
theorem co62 : Try.prog.cellsOf 62 = 1 := by kernel_rfl
theorem opn62 : OpensS Try.prog 62 s62 := by
  intro H enc w base spare held fuel cs x h
  obtain ⟨xs, n, _, _, hl, hlen, hf⟩ := DataW.trod_struct Try.underlying62 h
  obtain ⟨a0, k0, i0⟩ := opensS_field (a := s60) (i := 0) 0 1 hf hlen rfl rfl rfl co60 opn60
  rw [co62] at hl
  exact ⟨a0, (rdS_last (off := 0) k0 (by omega)), i0⟩
theorem co64 : Try.prog.cellsOf 64 = 8 := by kernel_rfl
theorem opn64 : OpensS Try.prog 64 s64 := by
  intro H enc w base spare held fuel cs x h
  obtain ⟨xs, n, _, _, hl, hlen, hf⟩ := DataW.trod_struct Try.underlying64 h
  obtain ⟨a0, k0, i0⟩ := opensS_field (a := s24) (i := 0) 0 1 hf hlen rfl rfl rfl co24 opn24
  obtain ⟨a1, k1, i1⟩ := opensS_field (a := s58) (i := 1) 1 4 hf hlen rfl rfl rfl co58 opn58
  obtain ⟨a2, k2, i2⟩ := opensS_field (a := s59) (i := 2) 5 1 hf hlen rfl rfl rfl co59 opn59
  obtain ⟨a3, k3, i3⟩ := opensS_field (a := s62) (i := 3) 6 1 hf hlen rfl rfl rfl co62 opn62
  obtain ⟨a4, k4, i4⟩ := opensS_field (a := (.int 3)) (i := 4) 7 1 hf hlen rfl rfl rfl co3 opn3
  rw [co64] at hl
  exact ⟨(a0, (a1, (a2, (a3, a4)))), (rdS_pair (off := 0) k0 (rdS_pair (off := 1) k1 (rdS_pair (off := 5) k2 (rdS_pair (off := 6) k3 (rdS_last (off := 7) k4 (by omega)))))), ⟨i0, ⟨i1, ⟨i2, ⟨i3, i4⟩⟩⟩⟩⟩
namespace fnExactEqualSources
open Go.ChangeShapes Go.WideShapes Go.ChangeAt Go.RowKit
theorem own : ownKnob Try.prog.godebug = none := by kernel_rfl
theorem laidOut : laidOutB Try.prog = true := fxLaid
set_option maxRecDepth 100000 in
theorem lifted (os : Os) (started : os.Started) (H : Type) (enc : TypeId × Value → H) :
    ReturnsInHanded {} Try.checked os 7 .any (Rows.fnExactEqualSourcesSpec.pre6 enc Try.prog Try.f7 Rows.fnExactEqualSourcesRow.domain false) (Rows.fnExactEqualSourcesSpec.post enc Try.prog Try.f7 false true false false) := by
  refine returnsInHanded_of_change (C := Try.checked) own started (by kernel_rfl) Try.func7
    (ChangeSpec.witness6 (enc := enc) (C := Try.checked) false ⟨#[], #[.agg #[.slice none 0 0, .int .i64 0, .int .i64 0, .int .i64 0, .int .i64 0, .slice none 0 0, .slice none 0 0, .int .i64 0], .agg #[.slice none 0 0, .int .i64 0, .int .i64 0, .int .i64 0, .int .i64 0, .slice none 0 0, .slice none 0 0, .int .i64 0]], []⟩ 8 (by kernel_rfl) (by kernel_rfl) (by kernel_rfl) (by kernel_rfl)) ?_
  intro W base args ds gs before hval0 hW hcnd _
  have hval : ∀ (j : Nat) t v, Try.f7.params[j]? = some t → args[j]? = some v → Value.okWide Try.prog W .any base t v := hval0
  have hW' := hW
  obtain ⟨p, q, hA0, hV, rfl, hfz, hnd⟩ := hW
  have hA : DataW.TrodAll enc Try.prog W 0 (fun _ => true) true Try.f7.params.toList args.toList ds p := hA0
  rw [Try.params7] at hA hval
  obtain ⟨v0, vs0, d0, ds0, p0, q0, hargs, rfl, rfl, h0, r0⟩ := trodAll_cons hA
  obtain ⟨v1, vs1, d1, ds1, p1, q1, rfl, rfl, rfl, h1, r1⟩ := trodAll_cons r0
  obtain ⟨rfl, rfl, rfl⟩ := trodAll_nil r1
  obtain rfl : args = #[v0, v1] := by cases args; simp_all
  obtain ⟨rfl, rfl⟩ := trodVars_none hV
  have k0 := h0
  have lt0 : ∀ x ∈ p0, x.block < W.heap.size := by obtain ⟨m, hm⟩ := k0; exact DataW.trod_lt m _ _ _ hm
  obtain ⟨cs0, rfl, _⟩ := okWide_struct Try.underlying64 (hval 0 64 v0 rfl rfl)
  obtain ⟨cs0⟩ := cs0
  obtain ⟨x0, hx0, i0⟩ : ∃ x : (s64).D, (s64).rd W (fun b => b < W.heap.size) cs0 x ∧ (s64).i64 x := by obtain ⟨fuel, hf⟩ := h0; exact opn64 hf
  have k1 := h1
  have lt1 : ∀ x ∈ p1, x.block < W.heap.size := by obtain ⟨m, hm⟩ := k1; exact DataW.trod_lt m _ _ _ hm
  obtain ⟨cs1, rfl, _⟩ := okWide_struct Try.underlying64 (hval 1 64 v1 rfl rfl)
  obtain ⟨cs1⟩ := cs1
  obtain ⟨x1, hx1, i1⟩ : ∃ x : (s64).D, (s64).rd W (fun b => b < W.heap.size) cs1 x ∧ (s64).i64 x := by obtain ⟨fuel, hf⟩ := h1; exact opn64 hf
  clear hA0 hval0
  refine (calls_law S_laws_FnExactEqualSources_ok (by kernel_rfl) W (fun b => b < W.heap.size) [.agg cs0.toArray, .agg cs1.toArray] (x0, x1, ()) (fun _ h => h) ⟨argRd_st hx0, argRd_st hx1, trivial⟩ ⟨i0, i1⟩).mono fun e W' hr => ?_
  obtain ⟨he, bel⟩ := ret_bool hr
  subst he
  exact ⟨_, rfl, _, _, _, [], _, [], hW', trodAll_mk1 (shut_bool Try.underlying4 _), (trodAll_cons_mk (Below.trod laidOut (by kernel_rfl) (of_decide_eq_true (by kernel_rfl)) k0 bel lt0) (trodAll_cons_mk (Below.trod laidOut (by kernel_rfl) (of_decide_eq_true (by kernel_rfl)) k1 bel lt1) trodAll_mk0)), rfl, bel.frame _, fun h => by cases h⟩
theorem closed : joinedFacts Try.prog 7 Try.f7 (Rows.fnExactEqualSourcesSpec) Rows.fnExactEqualSourcesRow = true := by
  unfold joinedFacts
  exact (and2 (and2 (and2 (and2 (and2 (and2 (and2 (and2 (and2 (and2 (and2 (and2 (and2 (and2 (and2 (and2 (and2 (and2 (and2 (and2 (and2 (and2 (and2 (and2 (and2 (and2 (and2 (and2 (and2 (and2 (and2 (by kernel_rfl) fxLaid) fxMaps) (by kernel_rfl)) (by kernel_rfl)) (by kernel_rfl)) (by kernel_rfl)) (by kernel_rfl)) (by kernel_rfl)) (by kernel_rfl)) (by kernel_rfl)) (by kernel_rfl)) (by kernel_rfl)) (by kernel_rfl)) (by kernel_rfl)) (by kernel_rfl)) (by kernel_rfl)) (by kernel_rfl)) (by kernel_rfl)) (by kernel_rfl)) (by kernel_rfl)) (by kernel_rfl)) (by kernel_rfl)) (by kernel_rfl)) (by kernel_rfl)) fxEnter) (by rw [fxLifts]; kernel_rfl)) (by rw [fxMake]; kernel_rfl)) (by kernel_rfl)) (by kernel_rfl)) (by kernel_rfl)) (by kernel_rfl))
theorem over : Rows.fnExactEqualSourcesRow.holds Try.pinned (OpenSpec.ofChange Rows.fnExactEqualSourcesSpec) :=
  OpenClaim.holds_of_wide 7 Try.f7 rfl rfl rfl rfl rfl rfl rfl ⟨rfl, rfl, rfl, rfl, rfl⟩ rfl rfl rfl rfl rfl (by kernel_rfl) Try.func7 closed
    (of_decide_eq_true (by kernel_rfl)) (by unfold Func.isWrapper; first | (rw [if_pos (by decide +kernel)]; kernel_rfl) | (rw [if_neg (by decide +kernel)]; exact ⟨rfl, rfl⟩))
    (fun os started H enc _ => lifted os started H enc)
/-- the statement -/
theorem proved : Rows.FnExactEqualSourcesSaid := over
end fnExactEqualSources

end Go.Proofs.Ytkialoggpcdhkaa

/- Rows of plain elements: copied, appended to. -/
import Derived.Test.YtpjflcllpmjjiaaSeq
import Derived.Test.YtpjflcllpmjjiaaInts
import Derived.Lib.SliceRun
namespace Go.Proofs.Ytpjflcllpmjjiaa
open Go.RowKit
set_option linter.unusedVariables false
set_option linter.unusedSimpArgs false
theorem absurd_need {b : Bool} (h : b = true) (h' : b = false) : False := by rw [h] at h'; cases h'
/-- the cells are all: no memory behind them -/
def Flat {α : Type} (R : Rp α) : Prop := ∀ (w w' : World) (B : Nat) (cs : List Value) (a : α), R.rd w B cs a → R.ow w' cs a []
theorem flatInt : Flat rInt := fun _ _ _ _ _ h => ⟨h.1, h.2, rfl⟩
section
variable {α : Type} {R : Rp α} {t : TypeId} {B B' : Nat} {w wr : World} {v : Value} {n : Nat}
theorem Ows.of_flat (hF : Flat R) : ∀ {vs : List (List Value)} {xs : List α}, Rds R wr B' vs xs → Ows R w vs xs (xs.map fun _ => [])
  | [], [], _ => trivial
  | _ :: _, _ :: _, h => ⟨hF _ _ _ _ _ h.1, Ows.of_flat hF h.2⟩
theorem Own.of_flat {vs : List (List Value)} {xs : List α} (hF : Flat R) (h : w.ownsRow B R.ty R.size v n vs.flatten) (hn : n = xs.length) (hr : Rds R wr B' vs xs) : Own (Rp.slice t R) B w [v] xs (Value.blk v) := by
  subst hn
  exact ⟨⟨v, vs, _, rfl, own_zero h, Ows.of_flat hF hr, by rw [flat_nils, List.append_nil]⟩, blk_nodup v, own_ge h⟩
/-- a row of plain elements that the call owns, as the model's row -/
theorem Own.flat_row {xs : List α} {F : List Nat} (hF : Flat R) (h : Own (Rp.slice t R) B w [v] xs F) : ∃ vs, w.ownsRow B R.ty R.size v xs.length vs.flatten ∧ Rds R w w.heap.size vs xs ∧ (∀ b ∈ Value.blk v, b ∈ F) := by
  obtain ⟨⟨v', vs, Fs, e, h1, h2, rfl⟩, _, hB⟩ := h
  simp only [List.cons.injEq, and_true] at e
  subst e
  exact ⟨vs, own_base h1 (fun b hb => hB b (List.mem_append.2 (.inl hb))), h2.rds h2.lt, fun b hb => List.mem_append.2 (.inl hb)⟩
end
/-- an append of one element to a row of plain elements, in a region or not: what it leaves -/
theorem Own.pushed {α : Type} {R : Rp α} {t : TypeId} {B : Nat} {w1 : World} {v1 : Value} {vs : List (List Value)} {xs : List α} {cs : List Value} {x : α} {B1 B2 : Nat} {wa wb : World} {n : Nat} (hF : Flat R) (h : w1.ownsRow B R.ty R.size v1 n (vs.flatten ++ cs)) (hn : n = xs.length + 1)
    (hr : Rds R wa B1 vs xs) (hx : R.rd wb B2 cs x) : Own (Rp.slice t R) B w1 [v1] (xs ++ [x]) (Value.blk v1) := by
  have e : vs.flatten ++ cs = (vs ++ [cs]).flatten := by simp
  rw [e] at h
  have hx' : R.rd w1 w1.heap.size cs x := R.ow_rd (hF wb w1 B2 cs x hx) (by simp)
  have hr' : Rds R w1 w1.heap.size vs xs := hr.imp fun c y hy => R.ow_rd (hF wa w1 B1 c y hy) (by simp)
  exact Own.of_flat (wr := w1) (B' := w1.heap.size) hF h (by simp [hn]) (hr'.snoc hx')
theorem own_one_nil {α : Type} {R : Rp α} {t : TypeId} {B : Nat} {w : World} : Own (Rp.slice t R) B w [.slice none 0 0] [] [] := Own.none_
theorem own_form {w : World} {B : Nat} {e : TypeId} {s n : Nat} {v : Value} {xs : List Value} (h : w.ownsRow B e s v n xs) : ∃ A c, v = .slice A n c := by
  rcases h.2 with ⟨rfl, rfl⟩ | ⟨g, cap, cur, rfl, _⟩
  · exact ⟨none, 0, rfl⟩
  · exact ⟨_, cap, rfl⟩
/-- the first k elements turned by f -/
def mapTo {α : Type} (f : α → α) (xs : List α) (k : Nat) : List α := (xs.take k).map f ++ xs.drop k
theorem mapTo_zero {α : Type} (f : α → α) (xs : List α) : mapTo f xs 0 = xs := by simp [mapTo]
theorem mapTo_len {α : Type} (f : α → α) (xs : List α) {k : Nat} (h : k ≤ xs.length) : (mapTo f xs k).length = xs.length := by simp [mapTo]; omega
theorem mapTo_all {α : Type} (f : α → α) (xs : List α) {k : Nat} (h : ¬ k < xs.length) : mapTo f xs k = xs.map f := by
  unfold mapTo
  rw [List.take_of_length_le (by omega), List.drop_of_length_le (by omega), List.append_nil]
theorem mapTo_at {α : Type} (f : α → α) (xs : List α) {k : Nat} (h : k < xs.length) : (mapTo f xs k)[k]'(by rw [mapTo_len f xs (by omega)]; exact h) = xs[k] := by
  have hl : ((xs.take k).map f).length = k := by simp; omega
  unfold mapTo
  rw [List.getElem_append_right (by omega), List.getElem_drop]
  congr 1
  omega
theorem mapTo_set {α : Type} (f : α → α) (xs : List α) {k : Nat} (h : k < xs.length) : (mapTo f xs k).set k (f xs[k]) = mapTo f xs (k + 1) := by
  unfold mapTo
  have hl : ((xs.take k).map f).length = k := by simp; omega
  rw [List.set_append_right _ _ (by omega), List.take_succ_eq_append_getElem h, List.drop_eq_getElem_cons h, hl, Nat.sub_self, List.set_cons_zero, List.map_append, List.append_assoc]
  rfl
theorem map_take_succ {α β : Type} (f : α → β) (xs : List α) {k : Nat} (h : k < xs.length) : (xs.take (k + 1)).map f = (xs.take k).map f ++ [f xs[k]] := by
  rw [List.take_succ_eq_append_getElem h, List.map_append]; rfl
end Go.Proofs.Ytpjflcllpmjjiaa

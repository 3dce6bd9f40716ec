/- A block that is known whole. -/
import Derived.Test.YtpjflcllpmjjiaaFlat
import Derived.Test.YtpjflcllpmjjiaaLawKit
namespace Go.Proofs.Ytpjflcllpmjjiaa
open Go.RowKit
set_option linter.unusedVariables false
set_option linter.unusedSimpArgs false
/-- block b is just these cells, of type t -/
def Box (w : World) (b : Nat) (t : TypeId) (cs : List Value) : Prop := w.heap[b]? = some (.cells cs.toArray t (0, 0))
section
variable {w w' : World} {b : Nat} {t : TypeId} {cs : List Value}
theorem Box.lt (h : Box w b t cs) : b < w.heap.size := heap_lt h
theorem Box.get (h : Box w b t cs) (j : Nat) {u : Value} (hu : cs[j]? = some u) : w.cell? ⟨b, j, none⟩ = some u := by
  rw [cell_of_row w b j cs.toArray t (0, 0) h]; simpa using hu
theorem Box.frozen (h : Box w b t cs) (j : Nat) : w.frozen? ⟨b, j, none⟩ = false := frozen_of_row w b j _ t h
theorem Box.new (w : World) (t : TypeId) (cs : List Value) : Box (w.alloc (.cells cs.toArray t)) w.heap.size t cs := heap_alloc_new w _
theorem Box.new' {w : World} {t : TypeId} {cs : List Value} {b : Nat} (h : w.heap.size = b) : Box (w.alloc (.cells cs.toArray t)) b t cs := h ▸ heap_alloc_new w _
theorem Box.alloc (h : Box w b t cs) (o : Obj) : Box (w.alloc o) b t cs := (Below.heap_alloc w o b h.lt).trans h
theorem Box.drawn {D : World} (h : Box w b t cs) (hD : D = w.drew) : Box D b t cs := by rw [hD]; exact h
theorem Box.drew (h : Box w b t cs) : Box w.drew b t cs := h
theorem Box.below {B : Nat} (h : Box w b t cs) (hb : Below B w w') (hB : b < B) : Box w' b t cs := (hb.block b hB).trans h
theorem Box.call (h : Box w b t cs) (hb : Below w.heap.size w w') : Box w' b t cs := (hb.block b h.lt).trans h
theorem Box.same {F : List Nat} (h : Box w b t cs) (hs : SameBut F w w') (hF : b ∉ F) : Box w' b t cs := (hs.2.2.2.2 b h.lt hF).trans h
theorem Box.far (h : Box w b t cs) {p : Addr} (hp : b ≠ p.block) (u : Value) : Box (w.setCell p u) b t cs := (Below.heap_setCell w p u b hp).trans h
theorem Box.set (h : Box w b t cs) (j : Nat) (u : Value) : Box (w.setCell ⟨b, j, none⟩ u) b t (cs.set j u) := by
  have := heap_setCell_same w b j cs.toArray t u h
  unfold Box
  rw [this]
  simp
end
theorem own_not {α : Type} {R : Rp α} {B b : Nat} {w : World} {cs : List Value} {a : α} {F : List Nat} (h : Own R B w cs a F) (hb : b < B) : b ∉ F := fun hf => by have := h.2.2 b hf; omega
theorem own_not' {α : Type} {R : Rp α} {B b : Nat} {w : World} {cs : List Value} {a : α} {F : List Nat} (h : Own R B w cs a F) (hb : w.heap.size ≤ b) : b ∉ F := fun hf => by have := h.lt b hf; omega
end Go.Proofs.Ytpjflcllpmjjiaa

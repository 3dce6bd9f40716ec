/- For the laws' own walks: a world under a name; regions that draw their order. -/
import Derived.Test.YtpjflcllpmjjiaaRow
import Derived.Test.YtpjflcllpmjjiaaOpen
import Derived.Deep.RegionHeld3
namespace Go.Proofs.Ytpjflcllpmjjiaa
open Go.RowKit

/-! ### over a draw -/
theorem wp_at {P : Program} {c : Code} {Q : Exit → Act → World → Prop} {a : Act} {W : World} (h : ∀ T, T = W → c.wp P Q a T) : c.wp P Q a W := h W rfl
theorem rd_drew {α : Type} {R : Rp α} {w : World} {cs : List Value} {a : α} (h : R.rd w w.heap.size cs a) : R.rd w.drew w.drew.heap.size cs a := R.rd_keep h fun _ _ => rfl
theorem below_undrew {T w' : World} (h : Below T.drew.heap.size T.drew w') : Below T.heap.size T w' := ⟨h.os, h.tape, h.output, h.size, h.block⟩
theorem Ret.undrew {α : Type} {R : Rp α} {T w' : World} {r : α} {e : Ending} (h : Ret R T.drew r e w') : Ret R T r e w' := by
  obtain ⟨cs, F, he, ho, hb⟩ := h
  exact ⟨cs, F, he, ho, below_undrew hb⟩
theorem RetB.undrew {α : Type} {R : Rp α} {T w' : World} {r : α} {b : Bool} {e : Ending} (h : RetB R T.drew r b e w') : RetB R T r b e w' := by
  obtain ⟨cs, F, he, ho, hb⟩ := h
  exact ⟨cs, F, he, ho, below_undrew hb⟩
end Go.Proofs.Ytpjflcllpmjjiaa

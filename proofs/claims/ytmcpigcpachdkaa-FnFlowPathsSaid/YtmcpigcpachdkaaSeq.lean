/- Regions that draw their order and make memory: one walk, in one order, serves every order. No program is named. -/
import Derived.Test.YtmcpigcpachdkaaRow
import Derived.OrdersHeld
import Derived.StillTail
namespace Go.Proofs.Ytmcpigcpachdkaa
open Go.RowKit
section
variable {P:Program} {ops:Array Oper} {Q:Exit→Act→World→Prop} {md:Region.Mode} {S:World→Prop} {need:Nat→Bool}
def ClosedL (md:Region.Mode) (ops:Array Oper) (listed:Array Bool):Prop :=
 ∀ (j:Nat) (oj:Oper),ops[j]?=some oj→listed.getD j false=true→∀ e∈oj.after,Region.binds md e=true→listed.getD e.on false=true
theorem ClosedL.set {listed:Array Bool} {i:Nat} (h:ClosedL md ops listed) (hi:i∈Region.ready md ops listed):ClosedL md ops (listed.setIfInBounds i true):=by
 obtain ⟨_,oi,hoi,hall⟩:=mem_ready.1 hi
 intro j oj hj hl e he hb
 by_cases hij:i=j
 ·subst hij
  have:oj=oi:=Option.some.inj (hj.symm.trans hoi)
  subst this
  exact getD_set_true (hall e he hb)
 ·rw [getD_set_ne false hij] at hl
  exact getD_set_true (h j oj hj hl e he hb)
theorem not_listed {listed:Array Bool} {i:Nat} (h:listed.getD i true=false) (h':listed.getD i false=true):False:=by
 rcases Nat.lt_or_ge i listed.size with hl | hl
 ·simp [hl] at h h';rw [h] at h';cases h'
 ·simp [Array.getElem?_eq_none hl] at h'
theorem Own.drawn {α:Type} {R:Rp α} {B:Nat} {w D:World} {cs:List Value} {a:α} {F:List Nat} (h:Own R B w cs a F) (hD:D=w.drew):Own R B D cs a F:=by rw [hD];exact h.keep fun _ _=>rfl
theorem Below.drawn {B:Nat} {w T D:World} (h:Below B w T) (hD:D=T.drew):Below B w D:=by rw [hD];exact h.drew
end
end Go.Proofs.Ytmcpigcpachdkaa

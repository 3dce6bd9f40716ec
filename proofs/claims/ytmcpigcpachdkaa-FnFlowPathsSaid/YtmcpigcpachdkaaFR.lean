/- The closed facts of a row, taken apart. No program is named; no condition. -/
import Derived.JoinedOf
import Derived.KernelRfl
import Derived.Test.YtmcpigcpachdkaaPY
namespace Go.Proofs.Ytmcpigcpachdkaa
theorem and2 {a b:Bool} (ha:a=true) (hb:b=true):(a && b)=true:=by rw [ha,hb];rfl
theorem head_cut {l : List (List Char)} (h : l.head? = some "cut".toList) : ∃ rest, l = "cut".toList :: rest := by
 cases l with
 | nil=>cases h
 | cons c r => exact ⟨r, by rw [show c = "cut".toList from Option.some.inj h]⟩
theorem strip_cut : (fun r => stripLifts liftWords ("cut".toList :: r)) = fun r => ([], "cut".toList :: r) := by kernel_rfl
theorem d_gc : ("cut".toList == "gc".toList) = false := by kernel_rfl
theorem d_spec : ("cut".toList == "spec".toList) = false := by kernel_rfl
theorem d_car : ("cut".toList == "carried".toList) = false := by kernel_rfl
theorem make_cut {P : Program} (h : (behindMainWord (wordsSigns P.initOrder.toList)).head? = some "cut".toList) : P.make = some .cut := by
 obtain ⟨r,e⟩:=head_cut h
 unfold Program.make;rw [e]
 show (if _ then _ else _)=_
 rw [d_gc,d_spec,beq_self_eq_true];rfl
theorem headLifts_cut {P : Program} (h : (behindMainWord (wordsSigns P.initOrder.toList)).head? = some "cut".toList) : P.headLifts = [] := by
 obtain ⟨r,e⟩:=head_cut h
 unfold Program.headLifts; rw [e, show stripLifts liftWords ("cut".toList :: r) = ([], "cut".toList :: r) from congrFun strip_cut r]
 dsimp only
 split<;>rfl
theorem lifts_cut {P : Program} (h : (behindMainWord (wordsSigns P.initOrder.toList)).head? = some "cut".toList) : P.liftsFinal = false := by
 obtain ⟨r,e⟩:=head_cut h
 unfold Program.liftsFinal;rw [headLifts_cut h,e]
 show (((some "cut".toList == some "carried".toList) && _) || _) = false
 rw [show (some "cut".toList == some "carried".toList) = false from d_car]; rfl
theorem enter_cut {P : Program} (h : (behindMainWord (wordsSigns P.initOrder.toList)).head? = some "cut".toList) (h1 : P.laysLater = false) (h2 : P.bearsReflect = false) (h3 : P.doorFits [] = true) : P.mayEnter = true := by
 obtain ⟨r,e⟩:=head_cut h
 unfold Program.mayEnter;rw [e]
 dsimp only
 rw [show stripLifts liftWords ("cut".toList :: r) = ([], "cut".toList :: r) from congrFun strip_cut r]
 dsimp only
 rw [h1,h2,h3]
 simp
end Go.Proofs.Ytmcpigcpachdkaa

/- Closed facts of the program. No condition. -/
import Derived.Test.YtpffjagdefkfkaaDoorFR
import Derived.Test.YtpffjagdefkfkaaDoorProg
namespace Go.Proofs.YtpffjagdefkfkaaDoor
theorem wordsH : (behindMainWord (wordsSigns Tryd.prog.initOrder.toList)).head? = some "cut".toList := by kernel_rfl
theorem fxMake : Tryd.prog.make = some .cut := make_cut wordsH
theorem fxLifts : Tryd.prog.liftsFinal = false := lifts_cut wordsH
theorem fxEnter : Tryd.prog.mayEnter = true := enter_cut wordsH (by kernel_rfl) (by kernel_rfl) (by kernel_rfl)
theorem fxLaid : laidOutB Tryd.prog = true := by kernel_rfl
theorem fxMaps : mapsRowed Tryd.prog = true := by kernel_rfl
end Go.Proofs.YtpffjagdefkfkaaDoor

/- Closed facts of the program. No condition. -/
import Derived.Test.YtekgoacohhdijaaGreatFR
import Derived.Test.YtekgoacohhdijaaGreatProg
namespace Go.Proofs.YtekgoacohhdijaaGreat
theorem wordsH : (behindMainWord (wordsSigns Tryz.prog.initOrder.toList)).head? = some "cut".toList := by kernel_rfl
theorem fxMake : Tryz.prog.make = some .cut := make_cut wordsH
theorem fxLifts : Tryz.prog.liftsFinal = false := lifts_cut wordsH
theorem fxEnter : Tryz.prog.mayEnter = true := enter_cut wordsH (by kernel_rfl) (by kernel_rfl) (by kernel_rfl)
theorem fxLaid : laidOutB Tryz.prog = true := by kernel_rfl
theorem fxMaps : mapsRowed Tryz.prog = true := by kernel_rfl
end Go.Proofs.YtekgoacohhdijaaGreat

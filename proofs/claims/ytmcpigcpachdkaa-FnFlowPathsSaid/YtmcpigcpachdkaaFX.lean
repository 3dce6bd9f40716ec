/- Closed facts of the program. No condition. -/
import Derived.Test.YtmcpigcpachdkaaFR
import Derived.Test.YtmcpigcpachdkaaProg
namespace Go.Proofs.Ytmcpigcpachdkaa
theorem wordsH : (behindMainWord (wordsSigns Try.prog.initOrder.toList)).head? = some "cut".toList := by kernel_rfl
theorem fxMake:Try.prog.make=some .cut:=make_cut wordsH
theorem fxLifts:Try.prog.liftsFinal=false:=lifts_cut wordsH
theorem fxEnter:Try.prog.mayEnter=true:=enter_cut wordsH (by kernel_rfl) (by kernel_rfl) (by kernel_rfl)
theorem fxLaid:laidOutB Try.prog=true:=by kernel_rfl
theorem fxMaps:mapsRowed Try.prog=true:=by kernel_rfl
end Go.Proofs.Ytmcpigcpachdkaa

/- The evaluator's answer at ModelNobody's function: true; no condition but that its argument is two cells. -/
import Derived.Test.YteijaoaiiddcgaaGreatDoorEvFin0
import Derived.Test.YteijaoaiiddcgaaGreatDoorRows
namespace Go.Proofs.YteijaoaiiddcgaaGreatDoor
open Go Go.Ev
theorem nobody_ev : isTrue (evFn Tryz.prog (evCode Tryz.prog noGlobal (exA 119 184) 100000) 5 [.agg [.sym 0, .sym 1]] .leaf .h) = true := by decide +kernel

end Go.Proofs.YteijaoaiiddcgaaGreatDoor

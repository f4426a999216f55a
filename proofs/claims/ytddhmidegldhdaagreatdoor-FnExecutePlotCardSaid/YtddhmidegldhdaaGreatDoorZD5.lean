/- What every row of this program asks of it: one by one, so that the kernel does not hold them all at once. No conditions. -/
import Derived.Test.YtddhmidegldhdaaGreatDoorZD0
import Derived.Test.YtddhmidegldhdaaGreatDoorZD1
import Derived.Test.YtddhmidegldhdaaGreatDoorZD2
import Derived.Test.YtddhmidegldhdaaGreatDoorZD3
import Derived.Test.YtddhmidegldhdaaGreatDoorZD4
import Derived.JoinedOf
/- What every row of this program asks of it: one by one, so that the kernel does not hold them all at once. No conditions. -/
namespace Go.Proofs.YtddhmidegldhdaaGreatDoor
open Go.ChangeShapes Go.WideShapes Go.ChangeAt Go.RowKit
set_option maxRecDepth 100000

theorem jfA : laidOutB Tryz.prog = true := by kernel_rfl
theorem jfB : mapsRowed Tryz.prog = true := by kernel_rfl
theorem jfC : (Tryz.prog.stops == []) = true := by kernel_rfl
theorem jfD : (Tryz.prog.stopKnobs == []) = true := by kernel_rfl
theorem jfE : Tryz.prog.stopsHeard = true := by kernel_rfl
theorem jfF : Tryz.prog.mayEnter = true := by kernel_rfl
theorem jfG : (Rows.fnExecuteRingRow.lifted == Tryz.prog.liftsFinal) = true := by kernel_rfl
theorem jfH : (Tryz.prog.make == some Rows.fnExecuteRingRow.make) = true := by kernel_rfl
theorem jfI : (Rows.fnExecuteRingRow.plainKeys == Tryz.prog.plainKeys) = true := by kernel_rfl

end Go.Proofs.YtddhmidegldhdaaGreatDoor

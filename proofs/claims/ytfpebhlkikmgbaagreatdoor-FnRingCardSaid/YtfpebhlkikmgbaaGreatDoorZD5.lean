/- What every row of this program asks of it: one by one, so that the kernel does not hold them all at once. No conditions. -/
import Derived.Test.YtfpebhlkikmgbaaGreatDoorZD0
import Derived.Test.YtfpebhlkikmgbaaGreatDoorZD1
import Derived.Test.YtfpebhlkikmgbaaGreatDoorZD2
import Derived.Test.YtfpebhlkikmgbaaGreatDoorZD3
import Derived.Test.YtfpebhlkikmgbaaGreatDoorZD4
import Derived.JoinedOf
/- What every row of this program asks of it: one by one, so that the kernel does not hold them all at once. No conditions. -/
namespace Go.Proofs.YtfpebhlkikmgbaaGreatDoor
open Go.ChangeShapes Go.WideShapes Go.ChangeAt Go.RowKit
set_option maxRecDepth 100000

theorem jfA : laidOutB Tryz.prog = true := by kernel_rfl
theorem jfB : mapsRowed Tryz.prog = true := by kernel_rfl
theorem jfC : (Tryz.prog.stops == []) = true := by kernel_rfl
theorem jfD : (Tryz.prog.stopKnobs == []) = true := by kernel_rfl
theorem jfE : Tryz.prog.stopsHeard = true := by kernel_rfl
theorem jfF : Tryz.prog.mayEnter = true := by kernel_rfl
theorem jfG : (Rows.fnRingRow.lifted == Tryz.prog.liftsFinal) = true := by kernel_rfl
theorem jfH : (Tryz.prog.make == some Rows.fnRingRow.make) = true := by kernel_rfl
theorem jfI : (Rows.fnRingRow.plainKeys == Tryz.prog.plainKeys) = true := by kernel_rfl

end Go.Proofs.YtfpebhlkikmgbaaGreatDoor

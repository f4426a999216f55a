/- What every row of this program asks of it: one by one, so that the kernel does not hold them all at once. No conditions. -/
import Derived.Test.YtcadinbahmliiaaGreatDoorZD0
import Derived.Test.YtcadinbahmliiaaGreatDoorZD1
import Derived.Test.YtcadinbahmliiaaGreatDoorZD2
import Derived.Test.YtcadinbahmliiaaGreatDoorZD3
import Derived.Test.YtcadinbahmliiaaGreatDoorZD4
import Derived.Test.YtcadinbahmliiaaGreatDoorZD5
import Derived.Test.YtcadinbahmliiaaGreatDoorZD6
import Derived.Test.YtcadinbahmliiaaGreatDoorZD7
import Derived.JoinedOf
/- What every row of this program asks of it: one by one, so that the kernel does not hold them all at once. No conditions. -/
namespace Go.Proofs.YtcadinbahmliiaaGreatDoor
open Go.ChangeShapes Go.WideShapes Go.ChangeAt Go.RowKit
set_option maxRecDepth 100000

theorem jfA : laidOutB Tryz.prog = true := by kernel_rfl
theorem jfB : mapsRowed Tryz.prog = true := by kernel_rfl
theorem jfC : (Tryz.prog.stops == []) = true := by kernel_rfl
theorem jfD : (Tryz.prog.stopKnobs == []) = true := by kernel_rfl
theorem jfE : Tryz.prog.stopsHeard = true := by kernel_rfl
theorem jfF : Tryz.prog.mayEnter = true := by kernel_rfl
theorem jfG : (Rows.fnExactEntryRightRow.lifted == Tryz.prog.liftsFinal) = true := by kernel_rfl
theorem jfH : (Tryz.prog.make == some Rows.fnExactEntryRightRow.make) = true := by kernel_rfl
theorem jfI : (Rows.fnExactEntryRightRow.plainKeys == Tryz.prog.plainKeys) = true := by kernel_rfl

end Go.Proofs.YtcadinbahmliiaaGreatDoor

/- What every row of this program asks of it: one by one, so that the kernel does not hold them all at once. No conditions. -/
import Derived.Test.YtoligfhcogligaaZS0
import Derived.Test.YtoligfhcogligaaZS1
import Derived.Test.YtoligfhcogligaaZS2
import Derived.Test.YtoligfhcogligaaZS3
import Derived.Test.YtoligfhcogligaaZS4
import Derived.JoinedOf
/- What every row of this program asks of it: one by one, so that the kernel does not hold them all at once. No conditions. -/
namespace Go.Proofs.Ytoligfhcogligaa
open Go.ChangeShapes Go.WideShapes Go.ChangeAt Go.RowKit
set_option maxRecDepth 100000

theorem jfA : laidOutB Try.prog = true := by kernel_rfl
theorem jfB : mapsRowed Try.prog = true := by kernel_rfl
theorem jfC : (Try.prog.stops == []) = true := by kernel_rfl
theorem jfD : (Try.prog.stopKnobs == []) = true := by kernel_rfl
theorem jfE : Try.prog.stopsHeard = true := by kernel_rfl
theorem jfF : Try.prog.mayEnter = true := by kernel_rfl
theorem jfG : (Rows.fnBendsRow.lifted == Try.prog.liftsFinal) = true := by kernel_rfl
theorem jfH : (Try.prog.make == some Rows.fnBendsRow.make) = true := by kernel_rfl
theorem jfI : (Rows.fnBendsRow.plainKeys == Try.prog.plainKeys) = true := by kernel_rfl

end Go.Proofs.Ytoligfhcogligaa

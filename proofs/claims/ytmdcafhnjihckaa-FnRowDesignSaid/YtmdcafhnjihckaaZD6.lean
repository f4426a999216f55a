/- What every row of this program asks of it: one by one, so that the kernel does not hold them all at once. No conditions. -/
import Derived.Test.YtmdcafhnjihckaaZD0
import Derived.Test.YtmdcafhnjihckaaZD1
import Derived.Test.YtmdcafhnjihckaaZD2
import Derived.Test.YtmdcafhnjihckaaZD3
import Derived.Test.YtmdcafhnjihckaaZD4
import Derived.Test.YtmdcafhnjihckaaZD5
import Derived.JoinedOf
/- What every row of this program asks of it: one by one, so that the kernel does not hold them all at once. No conditions. -/
namespace Go.Proofs.Ytmdcafhnjihckaa
open Go.ChangeShapes Go.WideShapes Go.ChangeAt Go.RowKit
set_option maxRecDepth 100000

theorem jfA : laidOutB Try.prog = true := by kernel_rfl
theorem jfB : mapsRowed Try.prog = true := by kernel_rfl
theorem jfC : (Try.prog.stops == []) = true := by kernel_rfl
theorem jfD : (Try.prog.stopKnobs == []) = true := by kernel_rfl
theorem jfE : Try.prog.stopsHeard = true := by kernel_rfl
theorem jfF : Try.prog.mayEnter = true := by kernel_rfl
theorem jfG : (Rows.fnDesignSumRow.lifted == Try.prog.liftsFinal) = true := by kernel_rfl
theorem jfH : (Try.prog.make == some Rows.fnDesignSumRow.make) = true := by kernel_rfl
theorem jfI : (Rows.fnDesignSumRow.plainKeys == Try.prog.plainKeys) = true := by kernel_rfl

end Go.Proofs.Ytmdcafhnjihckaa

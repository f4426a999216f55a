/- DesignTimes of the program and of the reference return the same, for whatever two lists: FnExactDesignTimes returns true, and its arguments read as before. No conditions. -/
import Derived.Test.YtnlfdcjpeoafhaaZA0
import Derived.Test.YtnlfdcjpeoafhaaZA1
import Derived.Test.YtnlfdcjpeoafhaaZA2
import Derived.Test.YtnlfdcjpeoafhaaZA3
import Derived.Test.YtnlfdcjpeoafhaaZA4
import Derived.Test.YtnlfdcjpeoafhaaZA5
import Derived.Test.YtnlfdcjpeoafhaaZA6
import Derived.Test.YtnlfdcjpeoafhaaZB0
/- DesignTimes of the program and of the reference return the same, for whatever two lists: FnExactDesignTimes returns true, and its arguments read as before. No conditions. -/
namespace Go.Proofs.Ytnlfdcjpeoafhaa
open Go.ChangeShapes Go.WideShapes Go.ChangeAt Go.RowKit

set_option maxRecDepth 100000 in
theorem times_lifted (os : Os) (started : os.Started) (H : Type) (enc : TypeId × Value → H) :
    ReturnsInHanded {} Try.checked os 4 .any (Rows.fnExactDesignTimesSpec.pre6 enc Try.prog Try.f4 Rows.fnExactDesignTimesRow.domain false) (Rows.fnExactDesignTimesSpec.post enc Try.prog Try.f4 false true false false) := by
  refine returnsInHanded_of_change (C := Try.checked) own started (by kernel_rfl) Try.func4
    (ChangeSpec.witness6 (enc := enc) (C := Try.checked) false ⟨#[], #[.slice none 0 0, .slice none 0 0], []⟩ 8 (by kernel_rfl) (by kernel_rfl) (by kernel_rfl) (by kernel_rfl)) ?_
  intro W base args ds gs before hval hW _ _
  exact contractWW (spec := Rows.fnExactDesignTimesSpec) Try.func4 rfl rfl rfl (fun _ _ _ => rfl) (fun m a n b hm hn => (yes_times m a 67 n b 67 hm hn).elim fun Γ h => ⟨Γ, 100, h⟩) H enc W base args ds gs before hval hW

set_option maxRecDepth 100000 in
theorem times_f1 : Rows.fnExactDesignTimesRow.wf (OpenSpec.ofChange Rows.fnExactDesignTimesSpec) = true := by kernel_rfl
set_option maxRecDepth 100000 in
theorem times_f2 : (Rows.fnExactDesignTimesRow.inPlace == Try.prog.inPlace 4) = true := by kernel_rfl
set_option maxRecDepth 100000 in
theorem times_f3 : (Rows.fnExactDesignTimesRow.unfollowed == Try.prog.unfollowed 4) = true := by kernel_rfl
set_option maxRecDepth 100000 in
theorem times_f4 : (Rows.fnExactDesignTimesRow.recurses == Try.prog.recurses 4) = true := by kernel_rfl
set_option maxRecDepth 100000 in
theorem times_f5 : (Rows.fnExactDesignTimesRow.named == Try.prog.varsNamed 4) = true := by kernel_rfl
set_option maxRecDepth 100000 in
theorem times_f6 : Try.prog.funcNamed Rows.fnExactDesignTimesRow.func = some 4 := by kernel_rfl
theorem times_f7 : (Rows.fnExactDesignTimesRow.lifted == Try.prog.liftsFinal) = true := jfG
theorem times_f8 : (Try.prog.make == some Rows.fnExactDesignTimesRow.make) = true := jfH
theorem times_f9 : (Rows.fnExactDesignTimesRow.plainKeys == Try.prog.plainKeys) = true := jfI
set_option maxRecDepth 100000 in
theorem times_joined : joinedFacts Try.prog 4 Try.f4 Rows.fnExactDesignTimesSpec Rows.fnExactDesignTimesRow = true := by
  unfold joinedFacts
  rw [jfA, jfB, jfC, jfD, jfE, jfF, times_f1, times_f2, times_f3, times_f4, times_f5, times_f7, times_f8, times_f9]
  kernel_rfl

theorem times_holds : Rows.FnExactDesignTimesSaid :=
  OpenClaim.holds_of_wide 4 Try.f4 rfl rfl rfl rfl rfl rfl rfl ⟨rfl, rfl, rfl, rfl, rfl⟩ rfl rfl rfl rfl rfl times_f6 Try.func4 times_joined
    (of_decide_eq_true (by kernel_rfl)) (by unfold Func.isWrapper; first | (rw [if_pos (by decide +kernel)]; kernel_rfl) | (rw [if_neg (by decide +kernel)]; exact ⟨rfl, rfl⟩))
    (fun os started H enc _ => times_lifted os started H enc)
#print axioms times_holds
end Go.Proofs.Ytnlfdcjpeoafhaa

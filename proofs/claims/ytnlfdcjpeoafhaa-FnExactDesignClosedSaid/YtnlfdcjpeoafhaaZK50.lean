/- DesignClosed of the program and of the reference return the same, for whatever list and number: FnExactDesignClosed returns true, and its arguments read as before. No conditions. -/
import Derived.Test.YtnlfdcjpeoafhaaZA0
import Derived.Test.YtnlfdcjpeoafhaaZA1
import Derived.Test.YtnlfdcjpeoafhaaZA2
import Derived.Test.YtnlfdcjpeoafhaaZA3
import Derived.Test.YtnlfdcjpeoafhaaZA4
import Derived.Test.YtnlfdcjpeoafhaaZA5
import Derived.Test.YtnlfdcjpeoafhaaZA6
import Derived.Test.YtnlfdcjpeoafhaaZB0
/- DesignClosed of the program and of the reference return the same, for whatever list and number: FnExactDesignClosed returns true, and its arguments read as before. No conditions. -/
namespace Go.Proofs.Ytnlfdcjpeoafhaa
open Go.ChangeShapes Go.WideShapes Go.ChangeAt Go.RowKit

set_option maxRecDepth 100000 in
theorem closed_lifted (os : Os) (started : os.Started) (H : Type) (enc : TypeId × Value → H) :
    ReturnsInHanded {} Try.checked os 7 .any (Rows.fnExactDesignClosedSpec.pre6 enc Try.prog Try.f7 Rows.fnExactDesignClosedRow.domain false) (Rows.fnExactDesignClosedSpec.post enc Try.prog Try.f7 false true false false) := by
  refine returnsInHanded_of_change (C := Try.checked) own started (by kernel_rfl) Try.func7
    (ChangeSpec.witness6 (enc := enc) (C := Try.checked) false ⟨#[], #[.slice none 0 0, .int .i64 0], []⟩ 8 (by kernel_rfl) (by kernel_rfl) (by kernel_rfl) (by kernel_rfl)) ?_
  intro W base args ds gs before hval hW _ _
  exact contractWI (spec := Rows.fnExactDesignClosedSpec) Try.func7 rfl rfl rfl (fun _ _ _ => rfl) (fun m a x hm => (yes_closed m a 67 x hm).elim fun Γ h => ⟨Γ, 100, h⟩) H enc W base args ds gs before hval hW

set_option maxRecDepth 100000 in
theorem closed_f1 : Rows.fnExactDesignClosedRow.wf (OpenSpec.ofChange Rows.fnExactDesignClosedSpec) = true := by kernel_rfl
set_option maxRecDepth 100000 in
theorem closed_f2 : (Rows.fnExactDesignClosedRow.inPlace == Try.prog.inPlace 7) = true := by kernel_rfl
set_option maxRecDepth 100000 in
theorem closed_f3 : (Rows.fnExactDesignClosedRow.unfollowed == Try.prog.unfollowed 7) = true := by kernel_rfl
set_option maxRecDepth 100000 in
theorem closed_f4 : (Rows.fnExactDesignClosedRow.recurses == Try.prog.recurses 7) = true := by kernel_rfl
set_option maxRecDepth 100000 in
theorem closed_f5 : (Rows.fnExactDesignClosedRow.named == Try.prog.varsNamed 7) = true := by kernel_rfl
set_option maxRecDepth 100000 in
theorem closed_f6 : Try.prog.funcNamed Rows.fnExactDesignClosedRow.func = some 7 := by kernel_rfl
theorem closed_f7 : (Rows.fnExactDesignClosedRow.lifted == Try.prog.liftsFinal) = true := jfG
theorem closed_f8 : (Try.prog.make == some Rows.fnExactDesignClosedRow.make) = true := jfH
theorem closed_f9 : (Rows.fnExactDesignClosedRow.plainKeys == Try.prog.plainKeys) = true := jfI
set_option maxRecDepth 100000 in
theorem closed_joined : joinedFacts Try.prog 7 Try.f7 Rows.fnExactDesignClosedSpec Rows.fnExactDesignClosedRow = true := by
  unfold joinedFacts
  rw [jfA, jfB, jfC, jfD, jfE, jfF, closed_f1, closed_f2, closed_f3, closed_f4, closed_f5, closed_f7, closed_f8, closed_f9]
  kernel_rfl

theorem closed_holds : Rows.FnExactDesignClosedSaid :=
  OpenClaim.holds_of_wide 7 Try.f7 rfl rfl rfl rfl rfl rfl rfl ⟨rfl, rfl, rfl, rfl, rfl⟩ rfl rfl rfl rfl rfl closed_f6 Try.func7 closed_joined
    (of_decide_eq_true (by kernel_rfl)) (by unfold Func.isWrapper; first | (rw [if_pos (by decide +kernel)]; kernel_rfl) | (rw [if_neg (by decide +kernel)]; exact ⟨rfl, rfl⟩))
    (fun os started H enc _ => closed_lifted os started H enc)
#print axioms closed_holds
end Go.Proofs.Ytnlfdcjpeoafhaa

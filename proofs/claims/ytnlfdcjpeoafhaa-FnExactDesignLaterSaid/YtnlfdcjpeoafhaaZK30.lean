/- DesignLater of the program and of the reference return the same, for whatever list and turn: FnExactDesignLater returns true, and its arguments read as before. No conditions. -/
import Derived.Test.YtnlfdcjpeoafhaaZA0
import Derived.Test.YtnlfdcjpeoafhaaZA1
import Derived.Test.YtnlfdcjpeoafhaaZA2
import Derived.Test.YtnlfdcjpeoafhaaZA3
import Derived.Test.YtnlfdcjpeoafhaaZA4
import Derived.Test.YtnlfdcjpeoafhaaZA5
import Derived.Test.YtnlfdcjpeoafhaaZA6
/- DesignLater of the program and of the reference return the same, for whatever list and turn: FnExactDesignLater returns true, and its arguments read as before. No conditions. -/
namespace Go.Proofs.Ytnlfdcjpeoafhaa
open Go.ChangeShapes Go.WideShapes Go.ChangeAt Go.RowKit

set_option maxRecDepth 100000 in
theorem later_lifted (os : Os) (started : os.Started) (H : Type) (enc : TypeId × Value → H) :
    ReturnsInHanded {} Try.checked os 5 .any (Rows.fnExactDesignLaterSpec.pre6 enc Try.prog Try.f5 Rows.fnExactDesignLaterRow.domain false) (Rows.fnExactDesignLaterSpec.post enc Try.prog Try.f5 false true false false) := by
  refine returnsInHanded_of_change (C := Try.checked) own started (by kernel_rfl) Try.func5
    (ChangeSpec.witness6 (enc := enc) (C := Try.checked) false ⟨#[], #[.slice none 0 0, .int .i64 0], []⟩ 8 (by kernel_rfl) (by kernel_rfl) (by kernel_rfl) (by kernel_rfl)) ?_
  intro W base args ds gs before hval hW _ _
  exact contractWI (spec := Rows.fnExactDesignLaterSpec) Try.func5 rfl rfl rfl (fun _ _ _ => rfl) (fun m a x hm => (yes_later m a 67 x hm).elim fun Γ h => ⟨Γ, 100, h⟩) H enc W base args ds gs before hval hW

set_option maxRecDepth 100000 in
theorem later_f1 : Rows.fnExactDesignLaterRow.wf (OpenSpec.ofChange Rows.fnExactDesignLaterSpec) = true := by kernel_rfl
set_option maxRecDepth 100000 in
theorem later_f2 : (Rows.fnExactDesignLaterRow.inPlace == Try.prog.inPlace 5) = true := by kernel_rfl
set_option maxRecDepth 100000 in
theorem later_f3 : (Rows.fnExactDesignLaterRow.unfollowed == Try.prog.unfollowed 5) = true := by kernel_rfl
set_option maxRecDepth 100000 in
theorem later_f4 : (Rows.fnExactDesignLaterRow.recurses == Try.prog.recurses 5) = true := by kernel_rfl
set_option maxRecDepth 100000 in
theorem later_f5 : (Rows.fnExactDesignLaterRow.named == Try.prog.varsNamed 5) = true := by kernel_rfl
set_option maxRecDepth 100000 in
theorem later_f6 : Try.prog.funcNamed Rows.fnExactDesignLaterRow.func = some 5 := by kernel_rfl
theorem later_f7 : (Rows.fnExactDesignLaterRow.lifted == Try.prog.liftsFinal) = true := jfG
theorem later_f8 : (Try.prog.make == some Rows.fnExactDesignLaterRow.make) = true := jfH
theorem later_f9 : (Rows.fnExactDesignLaterRow.plainKeys == Try.prog.plainKeys) = true := jfI
set_option maxRecDepth 100000 in
theorem later_joined : joinedFacts Try.prog 5 Try.f5 Rows.fnExactDesignLaterSpec Rows.fnExactDesignLaterRow = true := by
  unfold joinedFacts
  rw [jfA, jfB, jfC, jfD, jfE, jfF, later_f1, later_f2, later_f3, later_f4, later_f5, later_f7, later_f8, later_f9]
  kernel_rfl

theorem later_holds : Rows.FnExactDesignLaterSaid :=
  OpenClaim.holds_of_wide 5 Try.f5 rfl rfl rfl rfl rfl rfl rfl ⟨rfl, rfl, rfl, rfl, rfl⟩ rfl rfl rfl rfl rfl later_f6 Try.func5 later_joined
    (of_decide_eq_true (by kernel_rfl)) (by unfold Func.isWrapper; first | (rw [if_pos (by decide +kernel)]; kernel_rfl) | (rw [if_neg (by decide +kernel)]; exact ⟨rfl, rfl⟩))
    (fun os started H enc _ => later_lifted os started H enc)
#print axioms later_holds
end Go.Proofs.Ytnlfdcjpeoafhaa

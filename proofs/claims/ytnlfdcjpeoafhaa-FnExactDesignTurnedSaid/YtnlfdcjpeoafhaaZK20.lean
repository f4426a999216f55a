/- DesignTurned of the program and of the reference return the same, for whatever list and turn: FnExactDesignTurned returns true, and its arguments read as before. No conditions. -/
import Derived.Test.YtnlfdcjpeoafhaaZA0
import Derived.Test.YtnlfdcjpeoafhaaZA1
import Derived.Test.YtnlfdcjpeoafhaaZA2
import Derived.Test.YtnlfdcjpeoafhaaZA3
import Derived.Test.YtnlfdcjpeoafhaaZA4
import Derived.Test.YtnlfdcjpeoafhaaZA5
import Derived.Test.YtnlfdcjpeoafhaaZA6
/- DesignTurned of the program and of the reference return the same, for whatever list and turn: FnExactDesignTurned returns true, and its arguments read as before. No conditions. -/
namespace Go.Proofs.Ytnlfdcjpeoafhaa
open Go.ChangeShapes Go.WideShapes Go.ChangeAt Go.RowKit

set_option maxRecDepth 100000 in
theorem turned_lifted (os : Os) (started : os.Started) (H : Type) (enc : TypeId × Value → H) :
    ReturnsInHanded {} Try.checked os 6 .any (Rows.fnExactDesignTurnedSpec.pre6 enc Try.prog Try.f6 Rows.fnExactDesignTurnedRow.domain false) (Rows.fnExactDesignTurnedSpec.post enc Try.prog Try.f6 false true false false) := by
  refine returnsInHanded_of_change (C := Try.checked) own started (by kernel_rfl) Try.func6
    (ChangeSpec.witness6 (enc := enc) (C := Try.checked) false ⟨#[], #[.slice none 0 0, .int .i64 0], []⟩ 8 (by kernel_rfl) (by kernel_rfl) (by kernel_rfl) (by kernel_rfl)) ?_
  intro W base args ds gs before hval hW _ _
  exact contractWI (spec := Rows.fnExactDesignTurnedSpec) Try.func6 rfl rfl rfl (fun _ _ _ => rfl) (fun m a x hm => (yes_turned m a 67 x hm).elim fun Γ h => ⟨Γ, 100, h⟩) H enc W base args ds gs before hval hW

set_option maxRecDepth 100000 in
theorem turned_f1 : Rows.fnExactDesignTurnedRow.wf (OpenSpec.ofChange Rows.fnExactDesignTurnedSpec) = true := by kernel_rfl
set_option maxRecDepth 100000 in
theorem turned_f2 : (Rows.fnExactDesignTurnedRow.inPlace == Try.prog.inPlace 6) = true := by kernel_rfl
set_option maxRecDepth 100000 in
theorem turned_f3 : (Rows.fnExactDesignTurnedRow.unfollowed == Try.prog.unfollowed 6) = true := by kernel_rfl
set_option maxRecDepth 100000 in
theorem turned_f4 : (Rows.fnExactDesignTurnedRow.recurses == Try.prog.recurses 6) = true := by kernel_rfl
set_option maxRecDepth 100000 in
theorem turned_f5 : (Rows.fnExactDesignTurnedRow.named == Try.prog.varsNamed 6) = true := by kernel_rfl
set_option maxRecDepth 100000 in
theorem turned_f6 : Try.prog.funcNamed Rows.fnExactDesignTurnedRow.func = some 6 := by kernel_rfl
theorem turned_f7 : (Rows.fnExactDesignTurnedRow.lifted == Try.prog.liftsFinal) = true := jfG
theorem turned_f8 : (Try.prog.make == some Rows.fnExactDesignTurnedRow.make) = true := jfH
theorem turned_f9 : (Rows.fnExactDesignTurnedRow.plainKeys == Try.prog.plainKeys) = true := jfI
set_option maxRecDepth 100000 in
theorem turned_joined : joinedFacts Try.prog 6 Try.f6 Rows.fnExactDesignTurnedSpec Rows.fnExactDesignTurnedRow = true := by
  unfold joinedFacts
  rw [jfA, jfB, jfC, jfD, jfE, jfF, turned_f1, turned_f2, turned_f3, turned_f4, turned_f5, turned_f7, turned_f8, turned_f9]
  kernel_rfl

theorem turned_holds : Rows.FnExactDesignTurnedSaid :=
  OpenClaim.holds_of_wide 6 Try.f6 rfl rfl rfl rfl rfl rfl rfl ⟨rfl, rfl, rfl, rfl, rfl⟩ rfl rfl rfl rfl rfl turned_f6 Try.func6 turned_joined
    (of_decide_eq_true (by kernel_rfl)) (by unfold Func.isWrapper; first | (rw [if_pos (by decide +kernel)]; kernel_rfl) | (rw [if_neg (by decide +kernel)]; exact ⟨rfl, rfl⟩))
    (fun os started H enc _ => turned_lifted os started H enc)
#print axioms turned_holds
end Go.Proofs.Ytnlfdcjpeoafhaa

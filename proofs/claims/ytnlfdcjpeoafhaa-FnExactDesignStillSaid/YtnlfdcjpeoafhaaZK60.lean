/- DesignStill of the program and of the reference return the same, for whatever list: FnExactDesignStill returns true, and its argument reads as before. No conditions. -/
import Derived.Test.YtnlfdcjpeoafhaaZA0
import Derived.Test.YtnlfdcjpeoafhaaZA1
import Derived.Test.YtnlfdcjpeoafhaaZA2
import Derived.Test.YtnlfdcjpeoafhaaZA3
import Derived.Test.YtnlfdcjpeoafhaaZA4
import Derived.Test.YtnlfdcjpeoafhaaZA5
import Derived.Test.YtnlfdcjpeoafhaaZA6
import Derived.Test.YtnlfdcjpeoafhaaZB0
import Derived.Test.YtnlfdcjpeoafhaaZC0
/- DesignStill of the program and of the reference return the same, for whatever list: FnExactDesignStill returns true, and its argument reads as before. No conditions. -/
namespace Go.Proofs.Ytnlfdcjpeoafhaa
open Go.ChangeShapes Go.WideShapes Go.ChangeAt Go.RowKit

set_option maxRecDepth 100000 in
theorem still_lifted (os : Os) (started : os.Started) (H : Type) (enc : TypeId × Value → H) :
    ReturnsInHanded {} Try.checked os 11 .any (Rows.fnExactDesignStillSpec.pre6 enc Try.prog Try.f11 Rows.fnExactDesignStillRow.domain false) (Rows.fnExactDesignStillSpec.post enc Try.prog Try.f11 false true false false) := by
  refine returnsInHanded_of_change (C := Try.checked) own started (by kernel_rfl) Try.func11
    (ChangeSpec.witness6 (enc := enc) (C := Try.checked) false ⟨#[], #[.slice none 0 0], []⟩ 8 (by kernel_rfl) (by kernel_rfl) (by kernel_rfl) (by kernel_rfl)) ?_
  intro W base args ds gs before hval hW _ _
  exact contractW (spec := Rows.fnExactDesignStillSpec) Try.func11 rfl rfl rfl (fun _ _ => rfl) (fun m a hm => (yes_still m a 67 hm).elim fun Γ h => ⟨Γ, 100, h⟩) H enc W base args ds gs before hval hW

set_option maxRecDepth 100000 in
theorem still_f1 : Rows.fnExactDesignStillRow.wf (OpenSpec.ofChange Rows.fnExactDesignStillSpec) = true := by kernel_rfl
set_option maxRecDepth 100000 in
theorem still_f2 : (Rows.fnExactDesignStillRow.inPlace == Try.prog.inPlace 11) = true := by kernel_rfl
set_option maxRecDepth 100000 in
theorem still_f3 : (Rows.fnExactDesignStillRow.unfollowed == Try.prog.unfollowed 11) = true := by kernel_rfl
set_option maxRecDepth 100000 in
theorem still_f4 : (Rows.fnExactDesignStillRow.recurses == Try.prog.recurses 11) = true := by kernel_rfl
set_option maxRecDepth 100000 in
theorem still_f5 : (Rows.fnExactDesignStillRow.named == Try.prog.varsNamed 11) = true := by kernel_rfl
set_option maxRecDepth 100000 in
theorem still_f6 : Try.prog.funcNamed Rows.fnExactDesignStillRow.func = some 11 := by kernel_rfl
theorem still_f7 : (Rows.fnExactDesignStillRow.lifted == Try.prog.liftsFinal) = true := jfG
theorem still_f8 : (Try.prog.make == some Rows.fnExactDesignStillRow.make) = true := jfH
theorem still_f9 : (Rows.fnExactDesignStillRow.plainKeys == Try.prog.plainKeys) = true := jfI
set_option maxRecDepth 100000 in
theorem still_joined : joinedFacts Try.prog 11 Try.f11 Rows.fnExactDesignStillSpec Rows.fnExactDesignStillRow = true := by
  unfold joinedFacts
  rw [jfA, jfB, jfC, jfD, jfE, jfF, still_f1, still_f2, still_f3, still_f4, still_f5, still_f7, still_f8, still_f9]
  kernel_rfl

theorem still_holds : Rows.FnExactDesignStillSaid :=
  OpenClaim.holds_of_wide 11 Try.f11 rfl rfl rfl rfl rfl rfl rfl ⟨rfl, rfl, rfl, rfl, rfl⟩ rfl rfl rfl rfl rfl still_f6 Try.func11 still_joined
    (of_decide_eq_true (by kernel_rfl)) (by unfold Func.isWrapper; first | (rw [if_pos (by decide +kernel)]; kernel_rfl) | (rw [if_neg (by decide +kernel)]; exact ⟨rfl, rfl⟩))
    (fun os started H enc _ => still_lifted os started H enc)
#print axioms still_holds
end Go.Proofs.Ytnlfdcjpeoafhaa

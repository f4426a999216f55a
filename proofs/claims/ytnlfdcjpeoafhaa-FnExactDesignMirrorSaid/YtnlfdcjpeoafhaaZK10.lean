/- DesignMirror of the program and of the reference return the same, for whatever list: FnExactDesignMirror returns true, and its argument reads as before. No conditions. -/
import Derived.Test.YtnlfdcjpeoafhaaZA0
import Derived.Test.YtnlfdcjpeoafhaaZA1
import Derived.Test.YtnlfdcjpeoafhaaZA2
import Derived.Test.YtnlfdcjpeoafhaaZA3
import Derived.Test.YtnlfdcjpeoafhaaZA4
import Derived.Test.YtnlfdcjpeoafhaaZA5
import Derived.Test.YtnlfdcjpeoafhaaZA6
/- DesignMirror of the program and of the reference return the same, for whatever list: FnExactDesignMirror returns true, and its argument reads as before. No conditions. -/
namespace Go.Proofs.Ytnlfdcjpeoafhaa
open Go.ChangeShapes Go.WideShapes Go.ChangeAt Go.RowKit

set_option maxRecDepth 100000 in
theorem mirror_lifted (os : Os) (started : os.Started) (H : Type) (enc : TypeId × Value → H) :
    ReturnsInHanded {} Try.checked os 3 .any (Rows.fnExactDesignMirrorSpec.pre6 enc Try.prog Try.f3 Rows.fnExactDesignMirrorRow.domain false) (Rows.fnExactDesignMirrorSpec.post enc Try.prog Try.f3 false true false false) := by
  refine returnsInHanded_of_change (C := Try.checked) own started (by kernel_rfl) Try.func3
    (ChangeSpec.witness6 (enc := enc) (C := Try.checked) false ⟨#[], #[.slice none 0 0], []⟩ 8 (by kernel_rfl) (by kernel_rfl) (by kernel_rfl) (by kernel_rfl)) ?_
  intro W base args ds gs before hval hW _ _
  exact contractW (spec := Rows.fnExactDesignMirrorSpec) Try.func3 rfl rfl rfl (fun _ _ => rfl) (fun m a hm => (yes_mirror m a 67 hm).elim fun Γ h => ⟨Γ, 100, h⟩) H enc W base args ds gs before hval hW

set_option maxRecDepth 100000 in
theorem mirror_f1 : Rows.fnExactDesignMirrorRow.wf (OpenSpec.ofChange Rows.fnExactDesignMirrorSpec) = true := by kernel_rfl
set_option maxRecDepth 100000 in
theorem mirror_f2 : (Rows.fnExactDesignMirrorRow.inPlace == Try.prog.inPlace 3) = true := by kernel_rfl
set_option maxRecDepth 100000 in
theorem mirror_f3 : (Rows.fnExactDesignMirrorRow.unfollowed == Try.prog.unfollowed 3) = true := by kernel_rfl
set_option maxRecDepth 100000 in
theorem mirror_f4 : (Rows.fnExactDesignMirrorRow.recurses == Try.prog.recurses 3) = true := by kernel_rfl
set_option maxRecDepth 100000 in
theorem mirror_f5 : (Rows.fnExactDesignMirrorRow.named == Try.prog.varsNamed 3) = true := by kernel_rfl
set_option maxRecDepth 100000 in
theorem mirror_f6 : Try.prog.funcNamed Rows.fnExactDesignMirrorRow.func = some 3 := by kernel_rfl
theorem mirror_f7 : (Rows.fnExactDesignMirrorRow.lifted == Try.prog.liftsFinal) = true := jfG
theorem mirror_f8 : (Try.prog.make == some Rows.fnExactDesignMirrorRow.make) = true := jfH
theorem mirror_f9 : (Rows.fnExactDesignMirrorRow.plainKeys == Try.prog.plainKeys) = true := jfI
set_option maxRecDepth 100000 in
theorem mirror_joined : joinedFacts Try.prog 3 Try.f3 Rows.fnExactDesignMirrorSpec Rows.fnExactDesignMirrorRow = true := by
  unfold joinedFacts
  rw [jfA, jfB, jfC, jfD, jfE, jfF, mirror_f1, mirror_f2, mirror_f3, mirror_f4, mirror_f5, mirror_f7, mirror_f8, mirror_f9]
  kernel_rfl

theorem mirror_holds : Rows.FnExactDesignMirrorSaid :=
  OpenClaim.holds_of_wide 3 Try.f3 rfl rfl rfl rfl rfl rfl rfl ⟨rfl, rfl, rfl, rfl, rfl⟩ rfl rfl rfl rfl rfl mirror_f6 Try.func3 mirror_joined
    (of_decide_eq_true (by kernel_rfl)) (by unfold Func.isWrapper; first | (rw [if_pos (by decide +kernel)]; kernel_rfl) | (rw [if_neg (by decide +kernel)]; exact ⟨rfl, rfl⟩))
    (fun os started H enc _ => mirror_lifted os started H enc)
#print axioms mirror_holds
end Go.Proofs.Ytnlfdcjpeoafhaa

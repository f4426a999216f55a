/- PolyBends of the program and of the reference return the same, for whatever list: FnExactPolyBends returns true, and its argument reads as before. No conditions. -/
import Derived.Test.YtkbdppnlojlcdaaFC
import Derived.Test.YtkbdppnlojlcdaaM1
namespace Go.Proofs.Ytkbdppnlojlcdaa
open Go.ChangeShapes Go.WideShapes Go.ChangeAt Go.RowKit

set_option maxRecDepth 100000 in
theorem bends_lifted (os : Os) (started : os.Started) (H : Type) (enc : TypeId × Value → H) :
    ReturnsInHanded {} Try.checked os 3 .any (Rows.fnExactPolyBendsSpec.pre6 enc Try.prog Try.f3 Rows.fnExactPolyBendsRow.domain false) (Rows.fnExactPolyBendsSpec.post enc Try.prog Try.f3 false true false false) := by
  refine returnsInHanded_of_change (C := Try.checked) own started (by kernel_rfl) Try.func3
    (ChangeSpec.witness6 (enc := enc) (C := Try.checked) false ⟨#[], #[.slice none 0 0], []⟩ 8 (by kernel_rfl) (by kernel_rfl) (by kernel_rfl) (by kernel_rfl)) ?_
  intro W base args ds gs before hval hW _ _
  exact contractC (spec := Rows.fnExactPolyBendsSpec) Try.func3 rfl rfl rfl (fun _ _ => rfl) (fun m a hm => (yes_bends m a 46 hm).elim fun Γ h => ⟨Γ, 100, h⟩) H enc W base args ds gs before hval hW

theorem bends_holds : Rows.FnExactPolyBendsSaid :=
  OpenClaim.holds_of_wide 3 Try.f3 rfl rfl rfl rfl rfl rfl rfl ⟨rfl, rfl, rfl, rfl, rfl⟩ rfl rfl rfl rfl rfl (by kernel_rfl) Try.func3 (by kernel_rfl)
    (of_decide_eq_true (by kernel_rfl)) (by unfold Func.isWrapper; first | (rw [if_pos (by decide +kernel)]; kernel_rfl) | (rw [if_neg (by decide +kernel)]; exact ⟨rfl, rfl⟩))
    (fun os started H enc _ => bends_lifted os started H enc)
#print axioms bends_holds
end Go.Proofs.Ytkbdppnlojlcdaa

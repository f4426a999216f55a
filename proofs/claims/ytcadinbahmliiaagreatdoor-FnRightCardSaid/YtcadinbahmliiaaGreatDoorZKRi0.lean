/- A right entry is made of its design: FnRight returns true, and its arguments read as before. Conditions: the tables, as the row lists them; tied by the card. -/
import Derived.Test.YtcadinbahmliiaaGreatDoorZD0
import Derived.Test.YtcadinbahmliiaaGreatDoorZD1
import Derived.Test.YtcadinbahmliiaaGreatDoorZD2
import Derived.Test.YtcadinbahmliiaaGreatDoorZD3
import Derived.Test.YtcadinbahmliiaaGreatDoorZD4
import Derived.Test.YtcadinbahmliiaaGreatDoorZD5
import Derived.Test.YtcadinbahmliiaaGreatDoorZD6
import Derived.Test.YtcadinbahmliiaaGreatDoorZD7
import Derived.Test.YtcadinbahmliiaaGreatDoorZD8
import Derived.Test.YtcadinbahmliiaaGreatDoorZD9
import Derived.Test.YtcadinbahmliiaaGreatDoorTie
import Derived.SevenTiedAt
/- A right entry is made of its design: FnRight returns true, and its arguments read as before. Conditions: the tables, as the row lists them; tied by the card. -/
namespace Go.Proofs.YtcadinbahmliiaaGreatDoor
open Go.ChangeShapes Go.WideShapes Go.ChangeAt Go.RowKit

set_option maxRecDepth 100000
theorem rig_lifted (os : Os) (started : os.Started) (H : Type) (enc : TypeId × Value → H) :
    ReturnsInHanded {} Tryz.checked os 5 .any (fun w args => (Rows.fnRightSpec.pre enc Tryz.prog Tryz.f5 Rows.fnRightRow.domain false w args ∧ laidMet Tryz.prog Rows.fnRightRow.laid w) ∧ sizedMet enc Tryz.prog Tryz.f5 (OpenSpec.ofChange Rows.fnRightSpec) false w args)
      (Rows.fnRightSpec.post enc Tryz.prog Tryz.f5 false true false false) := by
  refine wrapS (C := Tryz.checked) (X := fun w _ => laidMet Tryz.prog Rows.fnRightRow.laid w) (fun _ _ _ hh h => h.of_heap hh) own started (by kernel_rfl) Tryz.func5
    (ChangeSpec.witness_at (enc := enc) (C := Tryz.checked) (os := os) (X := fun w _ => laidMet Tryz.prog Rows.fnRightRow.laid w) false (laidW os) #[.slice none 0 0] 8 rfl (by kernel_rfl) (by kernel_rfl) (by kernel_rfl) (by kernel_rfl) (by kernel_rfl) (laidW_met os _)) ?_
  intro W base args ds gs before hval hW hL hsh
  exact contractB (spec := Rows.fnRightSpec) Tryz.func5 rfl rfl rfl (fun _ _ => rfl) (fun m b hm hb => yes_rig m b hm hb) H enc W base args ds gs before hval hW (laid_tab hL hsh)

set_option maxRecDepth 100000 in
theorem rig_f1 : Rows.fnRightRow.wf (OpenSpec.ofChange Rows.fnRightSpec) = true := by kernel_rfl
set_option maxRecDepth 100000 in
theorem rig_f2 : (Rows.fnRightRow.inPlace == Tryz.prog.inPlace 5) = true := by kernel_rfl
set_option maxRecDepth 100000 in
theorem rig_f3 : (Rows.fnRightRow.unfollowed == Tryz.prog.unfollowed 5) = true := by kernel_rfl
set_option maxRecDepth 100000 in
theorem rig_f4 : (Rows.fnRightRow.recurses == Tryz.prog.recurses 5) = true := by kernel_rfl
set_option maxRecDepth 100000 in
theorem rig_f5 : (Rows.fnRightRow.named == Tryz.prog.varsNamed 5) = true := by kernel_rfl
set_option maxRecDepth 100000 in
theorem rig_f6 : Tryz.prog.funcNamed Rows.fnRightRow.func = some 5 := by kernel_rfl
theorem rig_f7 : (Rows.fnRightRow.lifted == Tryz.prog.liftsFinal) = true := jfG
theorem rig_f8 : (Tryz.prog.make == some Rows.fnRightRow.make) = true := jfH
theorem rig_f9 : (Rows.fnRightRow.plainKeys == Tryz.prog.plainKeys) = true := jfI
set_option maxRecDepth 100000 in
theorem rig_joined : joinedFacts Tryz.prog 5 Tryz.f5 Rows.fnRightSpec Rows.fnRightRow = true := by
  unfold joinedFacts
  rw [jfA, jfB, jfC, jfD, jfE, jfF, rig_f1, rig_f2, rig_f3, rig_f4, rig_f5, rig_f7, rig_f8, rig_f9]
  kernel_rfl

theorem rig_said : Rows.FnRightSaid :=
  OpenClaim.holds_of_wide 5 Tryz.f5 rfl rfl rfl rfl rfl rfl rfl ⟨rfl, rfl, rfl, rfl, rfl⟩ rfl rfl rfl rfl rfl rig_f6 Tryz.func5 rig_joined
    (of_decide_eq_true (by kernel_rfl)) (by unfold Func.isWrapper; first | (rw [if_pos (by decide +kernel)]; kernel_rfl) | (rw [if_neg (by decide +kernel)]; exact ⟨rfl, rfl⟩))
    (fun os started H enc _ => rig_lifted os started H enc)

theorem rig_holds : Rows.FnRightCardSaid :=
  Claim7.holds_tied_plain_at .later [] [.data, .data, .data, .data, .sentinel, .sentinel, .pinned] true (true, "64f19479c3a6d81dfc80de2dffd5fbef6da7676803f5285d7727ce03c0476430") true
    rig_said (fun _ h => by cases h) (by kernel_rfl) (fun _ h => by cases h) fnRight_row_tie rfl ⟨rfl, rfl⟩ (by kernel_rfl) rfl
    (fun f fn hf hfn => by
      obtain rfl : f = 5 := (Option.some.inj (rig_f6.symm.trans hf)).symm
      obtain rfl : fn = Tryz.f5 := (Option.some.inj (Tryz.func5.symm.trans hfn)).symm
      exact ⟨by kernel_rfl, fun j t ht => by
        rw [Tryz.params5] at ht
        have h3 : t = 30 := by
          rcases j with _ | j
          · simpa using ht.symm
          · simp at ht
        subst h3
        exact (show Tryz.prog.wantsStandIn 30 = false by kernel_rfl)⟩)
    (by kernel_rfl)
#print axioms rig_holds

end Go.Proofs.YtcadinbahmliiaaGreatDoor

/- A made entry is right, and no other sum is: FnEntry returns true, and its arguments read as before. Conditions: the tables, as the row lists them; tied by the card. -/
import Derived.Test.YtcadinbahmliiaaGreatDoorZD0
import Derived.Test.YtcadinbahmliiaaGreatDoorZD1
import Derived.Test.YtcadinbahmliiaaGreatDoorZD2
import Derived.Test.YtcadinbahmliiaaGreatDoorZD3
import Derived.Test.YtcadinbahmliiaaGreatDoorZD4
import Derived.Test.YtcadinbahmliiaaGreatDoorZD5
import Derived.Test.YtcadinbahmliiaaGreatDoorZD6
import Derived.Test.YtcadinbahmliiaaGreatDoorZD7
import Derived.Test.YtcadinbahmliiaaGreatDoorZD8
import Derived.Test.YtcadinbahmliiaaGreatDoorZD9
import Derived.Test.YtcadinbahmliiaaGreatDoorTie
import Derived.SevenTiedAt
/- A made entry is right, and no other sum is: FnEntry returns true, and its arguments read as before. Conditions: the tables, as the row lists them; tied by the card. -/
namespace Go.Proofs.YtcadinbahmliiaaGreatDoor
open Go.ChangeShapes Go.WideShapes Go.ChangeAt Go.RowKit

set_option maxRecDepth 100000
theorem ent_lifted (os : Os) (started : os.Started) (H : Type) (enc : TypeId × Value → H) :
    ReturnsInHanded {} Tryz.checked os 4 .any (fun w args => (Rows.fnEntrySpec.pre enc Tryz.prog Tryz.f4 Rows.fnEntryRow.domain false w args ∧ laidMet Tryz.prog Rows.fnEntryRow.laid w) ∧ sizedMet enc Tryz.prog Tryz.f4 (OpenSpec.ofChange Rows.fnEntrySpec) false w args)
      (Rows.fnEntrySpec.post enc Tryz.prog Tryz.f4 false true false false) := by
  refine wrapS (C := Tryz.checked) (X := fun w _ => laidMet Tryz.prog Rows.fnEntryRow.laid w) (fun _ _ _ hh h => h.of_heap hh) own started (by kernel_rfl) Tryz.func4
    (ChangeSpec.witness_at (enc := enc) (C := Tryz.checked) (os := os) (X := fun w _ => laidMet Tryz.prog Rows.fnEntryRow.laid w) false (laidW os) #[.slice none 0 0] 8 rfl (by kernel_rfl) (by kernel_rfl) (by kernel_rfl) (by kernel_rfl) (by kernel_rfl) (laidW_met os _)) ?_
  intro W base args ds gs before hval hW hL hsh
  exact contractB (spec := Rows.fnEntrySpec) Tryz.func4 rfl rfl rfl (fun _ _ => rfl) (fun m b hm hb => yes_ent m b hm hb) H enc W base args ds gs before hval hW (laid_tab hL hsh)

set_option maxRecDepth 100000 in
theorem ent_f1 : Rows.fnEntryRow.wf (OpenSpec.ofChange Rows.fnEntrySpec) = true := by kernel_rfl
set_option maxRecDepth 100000 in
theorem ent_f2 : (Rows.fnEntryRow.inPlace == Tryz.prog.inPlace 4) = true := by kernel_rfl
set_option maxRecDepth 100000 in
theorem ent_f3 : (Rows.fnEntryRow.unfollowed == Tryz.prog.unfollowed 4) = true := by kernel_rfl
set_option maxRecDepth 100000 in
theorem ent_f4 : (Rows.fnEntryRow.recurses == Tryz.prog.recurses 4) = true := by kernel_rfl
set_option maxRecDepth 100000 in
theorem ent_f5 : (Rows.fnEntryRow.named == Tryz.prog.varsNamed 4) = true := by kernel_rfl
set_option maxRecDepth 100000 in
theorem ent_f6 : Tryz.prog.funcNamed Rows.fnEntryRow.func = some 4 := by kernel_rfl
theorem ent_f7 : (Rows.fnEntryRow.lifted == Tryz.prog.liftsFinal) = true := jfG
theorem ent_f8 : (Tryz.prog.make == some Rows.fnEntryRow.make) = true := jfH
theorem ent_f9 : (Rows.fnEntryRow.plainKeys == Tryz.prog.plainKeys) = true := jfI
set_option maxRecDepth 100000 in
theorem ent_joined : joinedFacts Tryz.prog 4 Tryz.f4 Rows.fnEntrySpec Rows.fnEntryRow = true := by
  unfold joinedFacts
  rw [jfA, jfB, jfC, jfD, jfE, jfF, ent_f1, ent_f2, ent_f3, ent_f4, ent_f5, ent_f7, ent_f8, ent_f9]
  kernel_rfl

theorem ent_said : Rows.FnEntrySaid :=
  OpenClaim.holds_of_wide 4 Tryz.f4 rfl rfl rfl rfl rfl rfl rfl ⟨rfl, rfl, rfl, rfl, rfl⟩ rfl rfl rfl rfl rfl ent_f6 Tryz.func4 ent_joined
    (of_decide_eq_true (by kernel_rfl)) (by unfold Func.isWrapper; first | (rw [if_pos (by decide +kernel)]; kernel_rfl) | (rw [if_neg (by decide +kernel)]; exact ⟨rfl, rfl⟩))
    (fun os started H enc _ => ent_lifted os started H enc)

theorem ent_holds : Rows.FnEntryCardSaid :=
  Claim7.holds_tied_plain_at .later [] [.data, .data, .data, .data, .sentinel, .sentinel, .pinned] true (true, "64f19479c3a6d81dfc80de2dffd5fbef6da7676803f5285d7727ce03c0476430") true
    ent_said (fun _ h => by cases h) (by kernel_rfl) (fun _ h => by cases h) fnEntry_row_tie rfl ⟨rfl, rfl⟩ (by kernel_rfl) rfl
    (fun f fn hf hfn => by
      obtain rfl : f = 4 := (Option.some.inj (ent_f6.symm.trans hf)).symm
      obtain rfl : fn = Tryz.f4 := (Option.some.inj (Tryz.func4.symm.trans hfn)).symm
      exact ⟨by kernel_rfl, fun j t ht => by
        rw [Tryz.params4] at ht
        have h3 : t = 30 := by
          rcases j with _ | j
          · simpa using ht.symm
          · simp at ht
        subst h3
        exact (show Tryz.prog.wantsStandIn 30 = false by kernel_rfl)⟩)
    (by kernel_rfl)
#print axioms ent_holds

end Go.Proofs.YtcadinbahmliiaaGreatDoor

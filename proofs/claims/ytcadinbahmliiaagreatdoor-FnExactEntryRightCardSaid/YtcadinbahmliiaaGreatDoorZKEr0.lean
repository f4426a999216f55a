/- EntryRight of the program and of the reference return the same, for whatever entry: FnExactEntryRight returns true, and its arguments read as before. Conditions: the tables, as the row lists them; tied by the card. -/
import Derived.Test.YtcadinbahmliiaaGreatDoorZD0
import Derived.Test.YtcadinbahmliiaaGreatDoorZD1
import Derived.Test.YtcadinbahmliiaaGreatDoorZD2
import Derived.Test.YtcadinbahmliiaaGreatDoorZD3
import Derived.Test.YtcadinbahmliiaaGreatDoorZD4
import Derived.Test.YtcadinbahmliiaaGreatDoorZD5
import Derived.Test.YtcadinbahmliiaaGreatDoorZD6
import Derived.Test.YtcadinbahmliiaaGreatDoorZD7
import Derived.Test.YtcadinbahmliiaaGreatDoorZD8
import Derived.Test.YtcadinbahmliiaaGreatDoorZD9
import Derived.Test.YtcadinbahmliiaaGreatDoorTie
import Derived.SevenTiedAt
/- EntryRight of the program and of the reference return the same, for whatever entry: FnExactEntryRight returns true, and its arguments read as before. Conditions: the tables, as the row lists them; tied by the card. -/
namespace Go.Proofs.YtcadinbahmliiaaGreatDoor
open Go.ChangeShapes Go.WideShapes Go.ChangeAt Go.RowKit

set_option maxRecDepth 100000
theorem xer_lifted (os : Os) (started : os.Started) (H : Type) (enc : TypeId × Value → H) :
    ReturnsInHanded {} Tryz.checked os 3 .any (fun w args => (Rows.fnExactEntryRightSpec.pre enc Tryz.prog Tryz.f3 Rows.fnExactEntryRightRow.domain false w args ∧ laidMet Tryz.prog Rows.fnExactEntryRightRow.laid w) ∧ sizedMet enc Tryz.prog Tryz.f3 (OpenSpec.ofChange Rows.fnExactEntryRightSpec) false w args)
      (Rows.fnExactEntryRightSpec.post enc Tryz.prog Tryz.f3 false true false false) := by
  refine wrapS (C := Tryz.checked) (X := fun w _ => laidMet Tryz.prog Rows.fnExactEntryRightRow.laid w) (fun _ _ _ hh h => h.of_heap hh) own started (by kernel_rfl) Tryz.func3
    (ChangeSpec.witness_at (enc := enc) (C := Tryz.checked) (os := os) (X := fun w _ => laidMet Tryz.prog Rows.fnExactEntryRightRow.laid w) false (laidW os) #[.agg #[.string ⟨#[]⟩, .int .u32 0]] 8 rfl (by kernel_rfl) (by kernel_rfl) (by kernel_rfl) (by kernel_rfl) (by kernel_rfl) (laidW_met os _)) ?_
  intro W base args ds gs before hval hW hL hsh
  exact contractE (spec := Rows.fnExactEntryRightSpec) Tryz.func3 rfl rfl rfl (fun _ _ => rfl) (fun s c hs => yes_xer s c) H enc W base args ds gs before hval hW (laid_tab hL hsh)

set_option maxRecDepth 100000 in
theorem xer_f1 : Rows.fnExactEntryRightRow.wf (OpenSpec.ofChange Rows.fnExactEntryRightSpec) = true := by kernel_rfl
set_option maxRecDepth 100000 in
theorem xer_f2 : (Rows.fnExactEntryRightRow.inPlace == Tryz.prog.inPlace 3) = true := by kernel_rfl
set_option maxRecDepth 100000 in
theorem xer_f3 : (Rows.fnExactEntryRightRow.unfollowed == Tryz.prog.unfollowed 3) = true := by kernel_rfl
set_option maxRecDepth 100000 in
theorem xer_f4 : (Rows.fnExactEntryRightRow.recurses == Tryz.prog.recurses 3) = true := by kernel_rfl
set_option maxRecDepth 100000 in
theorem xer_f5 : (Rows.fnExactEntryRightRow.named == Tryz.prog.varsNamed 3) = true := by kernel_rfl
set_option maxRecDepth 100000 in
theorem xer_f6 : Tryz.prog.funcNamed Rows.fnExactEntryRightRow.func = some 3 := by kernel_rfl
theorem xer_f7 : (Rows.fnExactEntryRightRow.lifted == Tryz.prog.liftsFinal) = true := jfG
theorem xer_f8 : (Tryz.prog.make == some Rows.fnExactEntryRightRow.make) = true := jfH
theorem xer_f9 : (Rows.fnExactEntryRightRow.plainKeys == Tryz.prog.plainKeys) = true := jfI
set_option maxRecDepth 100000 in
theorem xer_joined : joinedFacts Tryz.prog 3 Tryz.f3 Rows.fnExactEntryRightSpec Rows.fnExactEntryRightRow = true := by
  unfold joinedFacts
  rw [jfA, jfB, jfC, jfD, jfE, jfF, xer_f1, xer_f2, xer_f3, xer_f4, xer_f5, xer_f7, xer_f8, xer_f9]
  kernel_rfl

theorem xer_said : Rows.FnExactEntryRightSaid :=
  OpenClaim.holds_of_wide 3 Tryz.f3 rfl rfl rfl rfl rfl rfl rfl ⟨rfl, rfl, rfl, rfl, rfl⟩ rfl rfl rfl rfl rfl xer_f6 Tryz.func3 xer_joined
    (of_decide_eq_true (by kernel_rfl)) (by unfold Func.isWrapper; first | (rw [if_pos (by decide +kernel)]; kernel_rfl) | (rw [if_neg (by decide +kernel)]; exact ⟨rfl, rfl⟩))
    (fun os started H enc _ => xer_lifted os started H enc)

theorem xer_holds : Rows.FnExactEntryRightCardSaid :=
  Claim7.holds_tied_plain_at .later [] [.data, .data, .data, .data, .sentinel, .sentinel, .pinned] true (true, "64f19479c3a6d81dfc80de2dffd5fbef6da7676803f5285d7727ce03c0476430") true
    xer_said (fun _ h => by cases h) (by kernel_rfl) (fun _ h => by cases h) fnExactEntryRight_row_tie rfl ⟨rfl, rfl⟩ (by kernel_rfl) rfl
    (fun f fn hf hfn => by
      obtain rfl : f = 3 := (Option.some.inj (xer_f6.symm.trans hf)).symm
      obtain rfl : fn = Tryz.f3 := (Option.some.inj (Tryz.func3.symm.trans hfn)).symm
      exact ⟨by kernel_rfl, fun j t ht => by
        rw [Tryz.params3] at ht
        have h3 : t = 24 := by
          rcases j with _ | j
          · simpa using ht.symm
          · simp at ht
        subst h3
        exact (show Tryz.prog.wantsStandIn 24 = false by kernel_rfl)⟩)
    (by kernel_rfl)
#print axioms xer_holds

end Go.Proofs.YtcadinbahmliiaaGreatDoor

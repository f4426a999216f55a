/- What is found is akin: FnFind returns true, and its arguments read as before. Conditions: the tables, as the row lists them; tied by the card. -/
import Derived.Test.YtcadinbahmliiaaGreatDoorZD0
import Derived.Test.YtcadinbahmliiaaGreatDoorZD1
import Derived.Test.YtcadinbahmliiaaGreatDoorZD2
import Derived.Test.YtcadinbahmliiaaGreatDoorZD3
import Derived.Test.YtcadinbahmliiaaGreatDoorZD4
import Derived.Test.YtcadinbahmliiaaGreatDoorZD5
import Derived.Test.YtcadinbahmliiaaGreatDoorZD6
import Derived.Test.YtcadinbahmliiaaGreatDoorZD7
import Derived.Test.YtcadinbahmliiaaGreatDoorZD8
import Derived.Test.YtcadinbahmliiaaGreatDoorZD9
import Derived.Test.YtcadinbahmliiaaGreatDoorTie
import Derived.SevenTiedAt
/- What is found is akin: FnFind returns true, and its arguments read as before. Conditions: the tables, as the row lists them; tied by the card. -/
namespace Go.Proofs.YtcadinbahmliiaaGreatDoor
open Go.ChangeShapes Go.WideShapes Go.ChangeAt Go.RowKit

set_option maxRecDepth 100000
theorem fin_lifted (os : Os) (started : os.Started) (H : Type) (enc : TypeId × Value → H) :
    ReturnsInHanded {} Tryz.checked os 9 .any (fun w args => (Rows.fnFindSpec.pre enc Tryz.prog Tryz.f9 Rows.fnFindRow.domain false w args ∧ laidMet Tryz.prog Rows.fnFindRow.laid w) ∧ sizedMet enc Tryz.prog Tryz.f9 (OpenSpec.ofChange Rows.fnFindSpec) false w args)
      (Rows.fnFindSpec.post enc Tryz.prog Tryz.f9 false true false false) := by
  refine wrapS (C := Tryz.checked) (X := fun w _ => laidMet Tryz.prog Rows.fnFindRow.laid w) (fun _ _ _ hh h => h.of_heap hh) own started (by kernel_rfl) Tryz.func9
    (ChangeSpec.witness_at (enc := enc) (C := Tryz.checked) (os := os) (X := fun w _ => laidMet Tryz.prog Rows.fnFindRow.laid w) false (laidW os) #[.slice none 0 0] 8 rfl (by kernel_rfl) (by kernel_rfl) (by kernel_rfl) (by kernel_rfl) (by kernel_rfl) (laidW_met os _)) ?_
  intro W base args ds gs before hval hW hL hsh
  exact contractB (spec := Rows.fnFindSpec) Tryz.func9 rfl rfl rfl (fun _ _ => rfl) (fun m b hm hb => yes_fin m b hm hb) H enc W base args ds gs before hval hW (laid_tab hL hsh)

set_option maxRecDepth 100000 in
theorem fin_f1 : Rows.fnFindRow.wf (OpenSpec.ofChange Rows.fnFindSpec) = true := by kernel_rfl
set_option maxRecDepth 100000 in
theorem fin_f2 : (Rows.fnFindRow.inPlace == Tryz.prog.inPlace 9) = true := by kernel_rfl
set_option maxRecDepth 100000 in
theorem fin_f3 : (Rows.fnFindRow.unfollowed == Tryz.prog.unfollowed 9) = true := by kernel_rfl
set_option maxRecDepth 100000 in
theorem fin_f4 : (Rows.fnFindRow.recurses == Tryz.prog.recurses 9) = true := by kernel_rfl
set_option maxRecDepth 100000 in
theorem fin_f5 : (Rows.fnFindRow.named == Tryz.prog.varsNamed 9) = true := by kernel_rfl
set_option maxRecDepth 100000 in
theorem fin_f6 : Tryz.prog.funcNamed Rows.fnFindRow.func = some 9 := by kernel_rfl
theorem fin_f7 : (Rows.fnFindRow.lifted == Tryz.prog.liftsFinal) = true := jfG
theorem fin_f8 : (Tryz.prog.make == some Rows.fnFindRow.make) = true := jfH
theorem fin_f9 : (Rows.fnFindRow.plainKeys == Tryz.prog.plainKeys) = true := jfI
set_option maxRecDepth 100000 in
theorem fin_joined : joinedFacts Tryz.prog 9 Tryz.f9 Rows.fnFindSpec Rows.fnFindRow = true := by
  unfold joinedFacts
  rw [jfA, jfB, jfC, jfD, jfE, jfF, fin_f1, fin_f2, fin_f3, fin_f4, fin_f5, fin_f7, fin_f8, fin_f9]
  kernel_rfl

theorem fin_said : Rows.FnFindSaid :=
  OpenClaim.holds_of_wide 9 Tryz.f9 rfl rfl rfl rfl rfl rfl rfl ⟨rfl, rfl, rfl, rfl, rfl⟩ rfl rfl rfl rfl rfl fin_f6 Tryz.func9 fin_joined
    (of_decide_eq_true (by kernel_rfl)) (by unfold Func.isWrapper; first | (rw [if_pos (by decide +kernel)]; kernel_rfl) | (rw [if_neg (by decide +kernel)]; exact ⟨rfl, rfl⟩))
    (fun os started H enc _ => fin_lifted os started H enc)

theorem fin_holds : Rows.FnFindCardSaid :=
  Claim7.holds_tied_plain_at .later [] [.data, .data, .data, .data, .sentinel, .sentinel, .pinned] true (true, "64f19479c3a6d81dfc80de2dffd5fbef6da7676803f5285d7727ce03c0476430") true
    fin_said (fun _ h => by cases h) (by kernel_rfl) (fun _ h => by cases h) fnFind_row_tie rfl ⟨rfl, rfl⟩ (by kernel_rfl) rfl
    (fun f fn hf hfn => by
      obtain rfl : f = 9 := (Option.some.inj (fin_f6.symm.trans hf)).symm
      obtain rfl : fn = Tryz.f9 := (Option.some.inj (Tryz.func9.symm.trans hfn)).symm
      exact ⟨by kernel_rfl, fun j t ht => by
        rw [Tryz.params9] at ht
        have h3 : t = 30 := by
          rcases j with _ | j
          · simpa using ht.symm
          · simp at ht
        subst h3
        exact (show Tryz.prog.wantsStandIn 30 = false by kernel_rfl)⟩)
    (by kernel_rfl)
#print axioms fin_holds

end Go.Proofs.YtcadinbahmliiaaGreatDoor

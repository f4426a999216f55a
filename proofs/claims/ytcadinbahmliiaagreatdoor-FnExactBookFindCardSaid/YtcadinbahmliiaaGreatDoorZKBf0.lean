/- BookFind of the program and of the reference return the same: FnExactBookFind returns true, and its arguments read as before. Conditions: the tables, as the row lists them; tied by the card. -/
import Derived.Test.YtcadinbahmliiaaGreatDoorZD0
import Derived.Test.YtcadinbahmliiaaGreatDoorZD1
import Derived.Test.YtcadinbahmliiaaGreatDoorZD2
import Derived.Test.YtcadinbahmliiaaGreatDoorZD3
import Derived.Test.YtcadinbahmliiaaGreatDoorZD4
import Derived.Test.YtcadinbahmliiaaGreatDoorZD5
import Derived.Test.YtcadinbahmliiaaGreatDoorZD6
import Derived.Test.YtcadinbahmliiaaGreatDoorZD7
import Derived.Test.YtcadinbahmliiaaGreatDoorZD8
import Derived.Test.YtcadinbahmliiaaGreatDoorZD9
import Derived.Test.YtcadinbahmliiaaGreatDoorTie
import Derived.SevenTiedAt
/- BookFind of the program and of the reference return the same: FnExactBookFind returns true, and its arguments read as before. Conditions: the tables, as the row lists them; tied by the card. -/
namespace Go.Proofs.YtcadinbahmliiaaGreatDoor
open Go.ChangeShapes Go.WideShapes Go.ChangeAt Go.RowKit

set_option maxRecDepth 100000
theorem xbf_lifted (os : Os) (started : os.Started) (H : Type) (enc : TypeId × Value → H) :
    ReturnsInHanded {} Tryz.checked os 8 .any (fun w args => (Rows.fnExactBookFindSpec.pre enc Tryz.prog Tryz.f8 Rows.fnExactBookFindRow.domain false w args ∧ laidMet Tryz.prog Rows.fnExactBookFindRow.laid w) ∧ sizedMet enc Tryz.prog Tryz.f8 (OpenSpec.ofChange Rows.fnExactBookFindSpec) false w args)
      (Rows.fnExactBookFindSpec.post enc Tryz.prog Tryz.f8 false true false false) := by
  refine wrapS (C := Tryz.checked) (X := fun w _ => laidMet Tryz.prog Rows.fnExactBookFindRow.laid w) (fun _ _ _ hh h => h.of_heap hh) own started (by kernel_rfl) Tryz.func8
    (ChangeSpec.witness_at (enc := enc) (C := Tryz.checked) (os := os) (X := fun w _ => laidMet Tryz.prog Rows.fnExactBookFindRow.laid w) false (laidW os) #[.slice none 0 0, .slice none 0 0] 8 rfl (by kernel_rfl) (by kernel_rfl) (by kernel_rfl) (by kernel_rfl) (by kernel_rfl) (laidW_met os _)) ?_
  intro W base args ds gs before hval hW hL hsh
  exact contractEW (spec := Rows.fnExactBookFindSpec) Tryz.func8 rfl rfl rfl (fun _ _ _ => rfl) (fun m g n h hm hg hn => yes_xbf m g n h hm hg hn) H enc W base args ds gs before hval hW (laid_tab hL hsh)

set_option maxRecDepth 100000 in
theorem xbf_f1 : Rows.fnExactBookFindRow.wf (OpenSpec.ofChange Rows.fnExactBookFindSpec) = true := by kernel_rfl
set_option maxRecDepth 100000 in
theorem xbf_f2 : (Rows.fnExactBookFindRow.inPlace == Tryz.prog.inPlace 8) = true := by kernel_rfl
set_option maxRecDepth 100000 in
theorem xbf_f3 : (Rows.fnExactBookFindRow.unfollowed == Tryz.prog.unfollowed 8) = true := by kernel_rfl
set_option maxRecDepth 100000 in
theorem xbf_f4 : (Rows.fnExactBookFindRow.recurses == Tryz.prog.recurses 8) = true := by kernel_rfl
set_option maxRecDepth 100000 in
theorem xbf_f5 : (Rows.fnExactBookFindRow.named == Tryz.prog.varsNamed 8) = true := by kernel_rfl
set_option maxRecDepth 100000 in
theorem xbf_f6 : Tryz.prog.funcNamed Rows.fnExactBookFindRow.func = some 8 := by kernel_rfl
theorem xbf_f7 : (Rows.fnExactBookFindRow.lifted == Tryz.prog.liftsFinal) = true := jfG
theorem xbf_f8 : (Tryz.prog.make == some Rows.fnExactBookFindRow.make) = true := jfH
theorem xbf_f9 : (Rows.fnExactBookFindRow.plainKeys == Tryz.prog.plainKeys) = true := jfI
set_option maxRecDepth 100000 in
theorem xbf_joined : joinedFacts Tryz.prog 8 Tryz.f8 Rows.fnExactBookFindSpec Rows.fnExactBookFindRow = true := by
  unfold joinedFacts
  rw [jfA, jfB, jfC, jfD, jfE, jfF, xbf_f1, xbf_f2, xbf_f3, xbf_f4, xbf_f5, xbf_f7, xbf_f8, xbf_f9]
  kernel_rfl

theorem xbf_said : Rows.FnExactBookFindSaid :=
  OpenClaim.holds_of_wide 8 Tryz.f8 rfl rfl rfl rfl rfl rfl rfl ⟨rfl, rfl, rfl, rfl, rfl⟩ rfl rfl rfl rfl rfl xbf_f6 Tryz.func8 xbf_joined
    (of_decide_eq_true (by kernel_rfl)) (by unfold Func.isWrapper; first | (rw [if_pos (by decide +kernel)]; kernel_rfl) | (rw [if_neg (by decide +kernel)]; exact ⟨rfl, rfl⟩))
    (fun os started H enc _ => xbf_lifted os started H enc)

theorem xbf_holds : Rows.FnExactBookFindCardSaid :=
  Claim7.holds_tied_plain_at .later [] [.data, .data, .data, .data, .sentinel, .sentinel, .pinned] true (true, "64f19479c3a6d81dfc80de2dffd5fbef6da7676803f5285d7727ce03c0476430") true
    xbf_said (fun _ h => by cases h) (by kernel_rfl) (fun _ h => by cases h) fnExactBookFind_row_tie rfl ⟨rfl, rfl⟩ (by kernel_rfl) rfl
    (fun f fn hf hfn => by
      obtain rfl : f = 8 := (Option.some.inj (xbf_f6.symm.trans hf)).symm
      obtain rfl : fn = Tryz.f8 := (Option.some.inj (Tryz.func8.symm.trans hfn)).symm
      exact ⟨by kernel_rfl, fun j t ht => by
        rw [Tryz.params8] at ht
        have h3 : t = 39 ∨ t = 49 := by
          rcases j with _ | _ | j
          · exact .inl (by simpa using ht.symm)
          · exact .inr (by simpa using ht.symm)
          · simp at ht
        rcases h3 with rfl | rfl
        · exact (show Tryz.prog.wantsStandIn 39 = false by kernel_rfl)
        · exact (show Tryz.prog.wantsStandIn 49 = false by kernel_rfl)⟩)
    (by kernel_rfl)
#print axioms xbf_holds

end Go.Proofs.YtcadinbahmliiaaGreatDoor

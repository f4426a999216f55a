/-
  DERIVED. GIVEN WITH THE SEED: THE CARDS: each row of YtekffadnmmhpiaaGreatDoorRows.lean that lists a variable, with what it lists TIED to the program's text (the seventh form; the later family's looks); each row that meets fmt, with fmt's text TOLD by the authors' own Lean function (tested against real Go, not proved from fmt's source: count such statements apart). THE CARD IS WHAT COUNTS. Prove the row's statement (the work); the ties are given (YtekffadnmmhpiaaGreatDoorTie.lean); close each card by the builder's one call (the guide's Derived/Test/ToyasCard.lean, 'card_holds'). Laid BY PROGRAM, IN A SANDBOX (cutbox-door.mjs). By AI agents, Wed Nov 11 2026. No macro, syntax, notation, axiom, sorry.
-/
import Derived.Test.YtekffadnmmhpiaaGreatDoorRows
import GoSem.ClaimSeven
namespace Go.Proofs.YtekffadnmmhpiaaGreatDoor
namespace Rows

/-- THE TIED CARD OF 'laws.FnExactEntryMake'. -/
def fnExactEntryMakeCard : Claim7 := { stood := { row := fnExactEntryMakeRow, standIns := [], harness := (true, "e73747533fece7393adf32ae3c585f38cf3487f4a4a723cf3cb9b9b2666e8962"), looks := false }, kinds := [], alts := [], laidByText := true, laidKinds := [.data, .data, .data], laidTests := true, laidLooks := .later }
def FnExactEntryMakeCardSaid : Prop := Claim7.holds Tryz.pinned (.plain (OpenSpec.ofChange fnExactEntryMakeSpec)) fnExactEntryMakeCard

/-- THE SECOND FORM's CARD OF 'laws.FnExactEntryMake'. -/
def fnExactEntryMakeUptoCard : Claim7 := { stood := { row := fnExactEntryMakeUptoRow, standIns := [], harness := (true, "e73747533fece7393adf32ae3c585f38cf3487f4a4a723cf3cb9b9b2666e8962"), looks := false }, kinds := [], alts := [], laidByText := true, laidKinds := [.data, .data, .data], laidTests := true, laidLooks := .later }
def FnExactEntryMakeUptoCardSaid : Prop := Claim7.holds Tryz.pinned (.plain (OpenSpec.upto fnExactEntryMakeSpec)) fnExactEntryMakeUptoCard
end Rows
end Go.Proofs.YtekffadnmmhpiaaGreatDoor

/-
  DERIVED. GIVEN WITH THE SEED: THE CARDS: each row of YtlmbkhplhkdhlaaGreatDoorRows.lean that lists a variable, with what it lists TIED to the program's text (the seventh form; the later family's looks); each row that meets fmt, with fmt's text TOLD by the authors' own Lean function (tested against real Go, not proved from fmt's source: count such statements apart). THE CARD IS WHAT COUNTS. Prove the row's statement (the work); the ties are given (YtlmbkhplhkdhlaaGreatDoorTie.lean); close each card by the builder's one call (the guide's Derived/Test/ToyasCard.lean, 'card_holds'). Laid BY PROGRAM, IN A SANDBOX (cutbox-door.mjs). By AI agents, Wed Nov 11 2026. No macro, syntax, notation, axiom, sorry.
-/
import Derived.Test.YtlmbkhplhkdhlaaGreatDoorRows
import GoSem.ClaimSeven
namespace Go.Proofs.YtlmbkhplhkdhlaaGreatDoor
namespace Rows

/-- THE TIED CARD OF 'laws.FnExactExecute'. -/
def fnExactExecuteCard : Claim7 := { stood := { row := fnExactExecuteRow, standIns := [], harness := (true, "3367deba35341feaa54b2fc79da7e4e427a511d24923d39f92859c78b4dd21ea"), looks := true }, kinds := [], alts := [], laidByText := true, laidKinds := [.data, .data, .data, .data, .handle, .sentinel, .sentinel, .pinned], laidTests := true, laidLooks := .later }
def FnExactExecuteCardSaid : Prop := Claim7.holds Tryz.pinned (.plain (OpenSpec.ofChange fnExactExecuteSpec)) fnExactExecuteCard

/-- THE SECOND FORM's CARD OF 'laws.FnExactExecute'. -/
def fnExactExecuteUptoCard : Claim7 := { stood := { row := fnExactExecuteUptoRow, standIns := [], harness := (true, "3367deba35341feaa54b2fc79da7e4e427a511d24923d39f92859c78b4dd21ea"), looks := true }, kinds := [], alts := [], laidByText := true, laidKinds := [.data, .data, .data, .data, .handle, .sentinel, .sentinel, .pinned], laidTests := true, laidLooks := .later }
def FnExactExecuteUptoCardSaid : Prop := Claim7.holds Tryz.pinned (.plain (OpenSpec.upto fnExactExecuteSpec)) fnExactExecuteUptoCard
end Rows
end Go.Proofs.YtlmbkhplhkdhlaaGreatDoor

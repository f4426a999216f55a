/-
  DERIVED. GIVEN WITH THE SEED: THE CARDS: each row of YteadmfceniidcaaGreatDoorRows.lean that lists a variable, with what it lists TIED to the program's text (the seventh form; the later family's looks); each row that meets fmt, with fmt's text TOLD by the authors' own Lean function (tested against real Go, not proved from fmt's source: count such statements apart). THE CARD IS WHAT COUNTS. Prove the row's statement (the work); the ties are given (YteadmfceniidcaaGreatDoorTie.lean); close each card by the builder's one call (the guide's Derived/Test/ToyasCard.lean, 'card_holds'). Laid BY PROGRAM, IN A SANDBOX (cutbox-door.mjs). By AI agents, Wed Nov 11 2026. No macro, syntax, notation, axiom, sorry.
-/
import Derived.Test.YteadmfceniidcaaGreatDoorRows
import GoSem.ClaimSeven
namespace Go.Proofs.YteadmfceniidcaaGreatDoor
namespace Rows

/-- THE TIED CARD OF 'laws.FnExactEntryMake'. -/
def fnExactEntryMakeCard : Claim7 := { stood := { row := fnExactEntryMakeRow, standIns := [], harness := (true, "6d99ff61ed64821873b9926968ab8f7b83114395451b8961ba819d7ee2e46a5d"), looks := true }, kinds := [], alts := [], laidByText := true, laidKinds := [.data, .data, .data], laidTests := true, laidLooks := .later }
def FnExactEntryMakeCardSaid : Prop := Claim7.holds Tryz.pinned (.plain (OpenSpec.ofChange fnExactEntryMakeSpec)) fnExactEntryMakeCard

/-- THE TIED CARD OF 'laws.FnExactEntryRight'. -/
def fnExactEntryRightCard : Claim7 := { stood := { row := fnExactEntryRightRow, standIns := [], harness := (true, "6d99ff61ed64821873b9926968ab8f7b83114395451b8961ba819d7ee2e46a5d"), looks := true }, kinds := [], alts := [], laidByText := true, laidKinds := [.data, .data, .data, .data, .sentinel, .sentinel, .pinned], laidTests := true, laidLooks := .later }
def FnExactEntryRightCardSaid : Prop := Claim7.holds Tryz.pinned (.plain (OpenSpec.ofChange fnExactEntryRightSpec)) fnExactEntryRightCard

/-- THE TIED CARD OF 'laws.FnEntry'. -/
def fnEntryCard : Claim7 := { stood := { row := fnEntryRow, standIns := [], harness := (true, "6d99ff61ed64821873b9926968ab8f7b83114395451b8961ba819d7ee2e46a5d"), looks := true }, kinds := [], alts := [], laidByText := true, laidKinds := [.data, .data, .data, .data, .sentinel, .sentinel, .pinned], laidTests := true, laidLooks := .later }
def FnEntryCardSaid : Prop := Claim7.holds Tryz.pinned (.plain (OpenSpec.ofChange fnEntrySpec)) fnEntryCard

/-- THE TIED CARD OF 'laws.FnRight'. -/
def fnRightCard : Claim7 := { stood := { row := fnRightRow, standIns := [], harness := (true, "6d99ff61ed64821873b9926968ab8f7b83114395451b8961ba819d7ee2e46a5d"), looks := true }, kinds := [], alts := [], laidByText := true, laidKinds := [.data, .data, .data, .data, .sentinel, .sentinel, .pinned], laidTests := true, laidLooks := .later }
def FnRightCardSaid : Prop := Claim7.holds Tryz.pinned (.plain (OpenSpec.ofChange fnRightSpec)) fnRightCard

/-- THE SECOND FORM's CARD OF 'laws.FnExactEntryMake'. -/
def fnExactEntryMakeUptoCard : Claim7 := { stood := { row := fnExactEntryMakeUptoRow, standIns := [], harness := (true, "6d99ff61ed64821873b9926968ab8f7b83114395451b8961ba819d7ee2e46a5d"), looks := true }, kinds := [], alts := [], laidByText := true, laidKinds := [.data, .data, .data], laidTests := true, laidLooks := .later }
def FnExactEntryMakeUptoCardSaid : Prop := Claim7.holds Tryz.pinned (.plain (OpenSpec.upto fnExactEntryMakeSpec)) fnExactEntryMakeUptoCard

/-- THE SECOND FORM's CARD OF 'laws.FnExactEntryRight'. -/
def fnExactEntryRightUptoCard : Claim7 := { stood := { row := fnExactEntryRightUptoRow, standIns := [], harness := (true, "6d99ff61ed64821873b9926968ab8f7b83114395451b8961ba819d7ee2e46a5d"), looks := true }, kinds := [], alts := [], laidByText := true, laidKinds := [.data, .data, .data, .data, .sentinel, .sentinel, .pinned], laidTests := true, laidLooks := .later }
def FnExactEntryRightUptoCardSaid : Prop := Claim7.holds Tryz.pinned (.plain (OpenSpec.upto fnExactEntryRightSpec)) fnExactEntryRightUptoCard

/-- THE SECOND FORM's CARD OF 'laws.FnEntry'. -/
def fnEntryUptoCard : Claim7 := { stood := { row := fnEntryUptoRow, standIns := [], harness := (true, "6d99ff61ed64821873b9926968ab8f7b83114395451b8961ba819d7ee2e46a5d"), looks := true }, kinds := [], alts := [], laidByText := true, laidKinds := [.data, .data, .data, .data, .sentinel, .sentinel, .pinned], laidTests := true, laidLooks := .later }
def FnEntryUptoCardSaid : Prop := Claim7.holds Tryz.pinned (.plain (OpenSpec.upto fnEntrySpec)) fnEntryUptoCard

/-- THE SECOND FORM's CARD OF 'laws.FnRight'. -/
def fnRightUptoCard : Claim7 := { stood := { row := fnRightUptoRow, standIns := [], harness := (true, "6d99ff61ed64821873b9926968ab8f7b83114395451b8961ba819d7ee2e46a5d"), looks := true }, kinds := [], alts := [], laidByText := true, laidKinds := [.data, .data, .data, .data, .sentinel, .sentinel, .pinned], laidTests := true, laidLooks := .later }
def FnRightUptoCardSaid : Prop := Claim7.holds Tryz.pinned (.plain (OpenSpec.upto fnRightSpec)) fnRightUptoCard
end Rows
end Go.Proofs.YteadmfceniidcaaGreatDoor

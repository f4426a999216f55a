/-
  DERIVED. GIVEN WITH THE SEED: THE CARDS: each row of YtcadinbahmliiaaGreatDoorRows.lean that lists a variable, with what it lists TIED to the program's text (the seventh form; the later family's looks); each row that meets fmt, with fmt's text TOLD by the authors' own Lean function (tested against real Go, not proved from fmt's source: count such statements apart). THE CARD IS WHAT COUNTS. Prove the row's statement (the work); the ties are given (YtcadinbahmliiaaGreatDoorTie.lean); close each card by the builder's one call (the guide's Derived/Test/ToyasCard.lean, 'card_holds'). Laid BY PROGRAM, IN A SANDBOX (cutbox-door.mjs). By AI agents, Wed Nov 11 2026. No macro, syntax, notation, axiom, sorry.
-/
import Derived.Test.YtcadinbahmliiaaGreatDoorRows
import GoSem.ClaimSeven
namespace Go.Proofs.YtcadinbahmliiaaGreatDoor
namespace Rows

/-- THE TIED CARD OF 'laws.FnExactEntryRight'. -/
def fnExactEntryRightCard : Claim7 := { stood := { row := fnExactEntryRightRow, standIns := [], harness := (true, "64f19479c3a6d81dfc80de2dffd5fbef6da7676803f5285d7727ce03c0476430"), looks := true }, kinds := [], alts := [], laidByText := true, laidKinds := [.data, .data, .data, .data, .sentinel, .sentinel, .pinned], laidTests := true, laidLooks := .later }
def FnExactEntryRightCardSaid : Prop := Claim7.holds Tryz.pinned (.plain (OpenSpec.ofChange fnExactEntryRightSpec)) fnExactEntryRightCard

/-- THE TIED CARD OF 'laws.FnEntry'. -/
def fnEntryCard : Claim7 := { stood := { row := fnEntryRow, standIns := [], harness := (true, "64f19479c3a6d81dfc80de2dffd5fbef6da7676803f5285d7727ce03c0476430"), looks := true }, kinds := [], alts := [], laidByText := true, laidKinds := [.data, .data, .data, .data, .sentinel, .sentinel, .pinned], laidTests := true, laidLooks := .later }
def FnEntryCardSaid : Prop := Claim7.holds Tryz.pinned (.plain (OpenSpec.ofChange fnEntrySpec)) fnEntryCard

/-- THE TIED CARD OF 'laws.FnRight'. -/
def fnRightCard : Claim7 := { stood := { row := fnRightRow, standIns := [], harness := (true, "64f19479c3a6d81dfc80de2dffd5fbef6da7676803f5285d7727ce03c0476430"), looks := true }, kinds := [], alts := [], laidByText := true, laidKinds := [.data, .data, .data, .data, .sentinel, .sentinel, .pinned], laidTests := true, laidLooks := .later }
def FnRightCardSaid : Prop := Claim7.holds Tryz.pinned (.plain (OpenSpec.ofChange fnRightSpec)) fnRightCard

/-- THE TIED CARD OF 'laws.FnExactBookSort'. -/
def fnExactBookSortCard : Claim7 := { stood := { row := fnExactBookSortRow, standIns := [], harness := (true, "64f19479c3a6d81dfc80de2dffd5fbef6da7676803f5285d7727ce03c0476430"), looks := true }, kinds := [], alts := [], laidByText := true, laidKinds := [.data, .data, .data, .data, .sentinel, .sentinel, .pinned], laidTests := true, laidLooks := .later }
def FnExactBookSortCardSaid : Prop := Claim7.holds Tryz.pinned (.plain (OpenSpec.ofChange fnExactBookSortSpec)) fnExactBookSortCard

/-- THE TIED CARD OF 'laws.FnSort'. -/
def fnSortCard : Claim7 := { stood := { row := fnSortRow, standIns := [], harness := (true, "64f19479c3a6d81dfc80de2dffd5fbef6da7676803f5285d7727ce03c0476430"), looks := true }, kinds := [], alts := [], laidByText := true, laidKinds := [.data, .data, .data, .data, .sentinel, .sentinel, .pinned], laidTests := true, laidLooks := .later }
def FnSortCardSaid : Prop := Claim7.holds Tryz.pinned (.plain (OpenSpec.ofChange fnSortSpec)) fnSortCard

/-- THE TIED CARD OF 'laws.FnExactBookFind'. -/
def fnExactBookFindCard : Claim7 := { stood := { row := fnExactBookFindRow, standIns := [], harness := (true, "64f19479c3a6d81dfc80de2dffd5fbef6da7676803f5285d7727ce03c0476430"), looks := true }, kinds := [], alts := [], laidByText := true, laidKinds := [.data, .data, .data, .data, .sentinel, .sentinel, .pinned], laidTests := true, laidLooks := .later }
def FnExactBookFindCardSaid : Prop := Claim7.holds Tryz.pinned (.plain (OpenSpec.ofChange fnExactBookFindSpec)) fnExactBookFindCard

/-- THE TIED CARD OF 'laws.FnFind'. -/
def fnFindCard : Claim7 := { stood := { row := fnFindRow, standIns := [], harness := (true, "64f19479c3a6d81dfc80de2dffd5fbef6da7676803f5285d7727ce03c0476430"), looks := true }, kinds := [], alts := [], laidByText := true, laidKinds := [.data, .data, .data, .data, .sentinel, .sentinel, .pinned], laidTests := true, laidLooks := .later }
def FnFindCardSaid : Prop := Claim7.holds Tryz.pinned (.plain (OpenSpec.ofChange fnFindSpec)) fnFindCard

/-- THE SECOND FORM's CARD OF 'laws.FnExactEntryRight'. -/
def fnExactEntryRightUptoCard : Claim7 := { stood := { row := fnExactEntryRightUptoRow, standIns := [], harness := (true, "64f19479c3a6d81dfc80de2dffd5fbef6da7676803f5285d7727ce03c0476430"), looks := true }, kinds := [], alts := [], laidByText := true, laidKinds := [.data, .data, .data, .data, .sentinel, .sentinel, .pinned], laidTests := true, laidLooks := .later }
def FnExactEntryRightUptoCardSaid : Prop := Claim7.holds Tryz.pinned (.plain (OpenSpec.upto fnExactEntryRightSpec)) fnExactEntryRightUptoCard

/-- THE SECOND FORM's CARD OF 'laws.FnEntry'. -/
def fnEntryUptoCard : Claim7 := { stood := { row := fnEntryUptoRow, standIns := [], harness := (true, "64f19479c3a6d81dfc80de2dffd5fbef6da7676803f5285d7727ce03c0476430"), looks := true }, kinds := [], alts := [], laidByText := true, laidKinds := [.data, .data, .data, .data, .sentinel, .sentinel, .pinned], laidTests := true, laidLooks := .later }
def FnEntryUptoCardSaid : Prop := Claim7.holds Tryz.pinned (.plain (OpenSpec.upto fnEntrySpec)) fnEntryUptoCard

/-- THE SECOND FORM's CARD OF 'laws.FnRight'. -/
def fnRightUptoCard : Claim7 := { stood := { row := fnRightUptoRow, standIns := [], harness := (true, "64f19479c3a6d81dfc80de2dffd5fbef6da7676803f5285d7727ce03c0476430"), looks := true }, kinds := [], alts := [], laidByText := true, laidKinds := [.data, .data, .data, .data, .sentinel, .sentinel, .pinned], laidTests := true, laidLooks := .later }
def FnRightUptoCardSaid : Prop := Claim7.holds Tryz.pinned (.plain (OpenSpec.upto fnRightSpec)) fnRightUptoCard

/-- THE SECOND FORM's CARD OF 'laws.FnExactBookSort'. -/
def fnExactBookSortUptoCard : Claim7 := { stood := { row := fnExactBookSortUptoRow, standIns := [], harness := (true, "64f19479c3a6d81dfc80de2dffd5fbef6da7676803f5285d7727ce03c0476430"), looks := true }, kinds := [], alts := [], laidByText := true, laidKinds := [.data, .data, .data, .data, .sentinel, .sentinel, .pinned], laidTests := true, laidLooks := .later }
def FnExactBookSortUptoCardSaid : Prop := Claim7.holds Tryz.pinned (.plain (OpenSpec.upto fnExactBookSortSpec)) fnExactBookSortUptoCard

/-- THE SECOND FORM's CARD OF 'laws.FnSort'. -/
def fnSortUptoCard : Claim7 := { stood := { row := fnSortUptoRow, standIns := [], harness := (true, "64f19479c3a6d81dfc80de2dffd5fbef6da7676803f5285d7727ce03c0476430"), looks := true }, kinds := [], alts := [], laidByText := true, laidKinds := [.data, .data, .data, .data, .sentinel, .sentinel, .pinned], laidTests := true, laidLooks := .later }
def FnSortUptoCardSaid : Prop := Claim7.holds Tryz.pinned (.plain (OpenSpec.upto fnSortSpec)) fnSortUptoCard

/-- THE SECOND FORM's CARD OF 'laws.FnExactBookFind'. -/
def fnExactBookFindUptoCard : Claim7 := { stood := { row := fnExactBookFindUptoRow, standIns := [], harness := (true, "64f19479c3a6d81dfc80de2dffd5fbef6da7676803f5285d7727ce03c0476430"), looks := true }, kinds := [], alts := [], laidByText := true, laidKinds := [.data, .data, .data, .data, .sentinel, .sentinel, .pinned], laidTests := true, laidLooks := .later }
def FnExactBookFindUptoCardSaid : Prop := Claim7.holds Tryz.pinned (.plain (OpenSpec.upto fnExactBookFindSpec)) fnExactBookFindUptoCard

/-- THE SECOND FORM's CARD OF 'laws.FnFind'. -/
def fnFindUptoCard : Claim7 := { stood := { row := fnFindUptoRow, standIns := [], harness := (true, "64f19479c3a6d81dfc80de2dffd5fbef6da7676803f5285d7727ce03c0476430"), looks := true }, kinds := [], alts := [], laidByText := true, laidKinds := [.data, .data, .data, .data, .sentinel, .sentinel, .pinned], laidTests := true, laidLooks := .later }
def FnFindUptoCardSaid : Prop := Claim7.holds Tryz.pinned (.plain (OpenSpec.upto fnFindSpec)) fnFindUptoCard
end Rows
end Go.Proofs.YtcadinbahmliiaaGreatDoor

/-
  DERIVED. GIVEN WITH THE SEED: THE CARDS: each row of YtddhmidegldhdaaGreatDoorRows.lean that lists a variable, with what it lists TIED to the program's text (the seventh form; the later family's looks); each row that meets fmt, with fmt's text TOLD by the authors' own Lean function (tested against real Go, not proved from fmt's source: count such statements apart). THE CARD IS WHAT COUNTS. Prove the row's statement (the work); the ties are given (YtddhmidegldhdaaGreatDoorTie.lean); close each card by the builder's one call (the guide's Derived/Test/ToyasCard.lean, 'card_holds'). Laid BY PROGRAM, IN A SANDBOX (cutbox-door.mjs). By AI agents, Wed Nov 11 2026. No macro, syntax, notation, axiom, sorry.
-/
import Derived.Test.YtddhmidegldhdaaGreatDoorRows
import GoSem.ClaimSeven
namespace Go.Proofs.YtddhmidegldhdaaGreatDoor
namespace Rows

/-- THE TIED CARD OF 'laws.FnExecuteRing'. -/
def fnExecuteRingCard : Claim7 := { stood := { row := fnExecuteRingRow, standIns := [], harness := (true, "3d31fffe0e7f2f3809f8f5b05f0aaa9165427e1982440e4b7557c38c542767c8"), looks := true }, kinds := [], alts := [], laidByText := true, laidKinds := [.data, .data, .data, .data, .handle, .sentinel, .sentinel, .pinned], laidTests := true, laidLooks := .later }
def FnExecuteRingCardSaid : Prop := Claim7.holds Tryz.pinned (.plain (OpenSpec.ofChange fnExecuteRingSpec)) fnExecuteRingCard

/-- THE TIED CARD OF 'laws.FnExecutePlot'. -/
def fnExecutePlotCard : Claim7 := { stood := { row := fnExecutePlotRow, standIns := [], harness := (true, "3d31fffe0e7f2f3809f8f5b05f0aaa9165427e1982440e4b7557c38c542767c8"), looks := true }, kinds := [], alts := [], laidByText := true, laidKinds := [.data, .data, .data, .data, .handle, .sentinel, .sentinel, .pinned], laidTests := true, laidLooks := .later }
def FnExecutePlotCardSaid : Prop := Claim7.holds Tryz.pinned (.plain (OpenSpec.ofChange fnExecutePlotSpec)) fnExecutePlotCard

/-- THE TIED CARD OF 'laws.FnExecuteSet'. -/
def fnExecuteSetCard : Claim7 := { stood := { row := fnExecuteSetRow, standIns := [], harness := (true, "3d31fffe0e7f2f3809f8f5b05f0aaa9165427e1982440e4b7557c38c542767c8"), looks := true }, kinds := [], alts := [], laidByText := true, laidKinds := [.data, .data, .data, .data, .handle, .sentinel, .sentinel, .pinned], laidTests := true, laidLooks := .later }
def FnExecuteSetCardSaid : Prop := Claim7.holds Tryz.pinned (.plain (OpenSpec.ofChange fnExecuteSetSpec)) fnExecuteSetCard

/-- THE TIED CARD OF 'laws.FnExactExecute'. -/
def fnExactExecuteCard : Claim7 := { stood := { row := fnExactExecuteRow, standIns := [], harness := (true, "3d31fffe0e7f2f3809f8f5b05f0aaa9165427e1982440e4b7557c38c542767c8"), looks := true }, kinds := [], alts := [], laidByText := true, laidKinds := [.data, .data, .data, .data, .handle, .sentinel, .sentinel, .pinned], laidTests := true, laidLooks := .later }
def FnExactExecuteCardSaid : Prop := Claim7.holds Tryz.pinned (.plain (OpenSpec.ofChange fnExactExecuteSpec)) fnExactExecuteCard

/-- THE TIED CARD OF 'laws.FnExecuteNone'. -/
def fnExecuteNoneCard : Claim7 := { stood := { row := fnExecuteNoneRow, standIns := [], harness := (true, "3d31fffe0e7f2f3809f8f5b05f0aaa9165427e1982440e4b7557c38c542767c8"), looks := true }, kinds := [], alts := [], laidByText := true, laidKinds := [.data, .data, .data, .data, .handle, .sentinel, .sentinel, .pinned], laidTests := true, laidLooks := .later }
def FnExecuteNoneCardSaid : Prop := Claim7.holds Tryz.pinned (.plain (OpenSpec.ofChange fnExecuteNoneSpec)) fnExecuteNoneCard

/-- THE TIED CARD OF 'laws.FnExecuteTwice'. -/
def fnExecuteTwiceCard : Claim7 := { stood := { row := fnExecuteTwiceRow, standIns := [], harness := (true, "3d31fffe0e7f2f3809f8f5b05f0aaa9165427e1982440e4b7557c38c542767c8"), looks := true }, kinds := [], alts := [], laidByText := true, laidKinds := [.data, .data, .data, .data, .handle, .sentinel, .sentinel, .pinned], laidTests := true, laidLooks := .later }
def FnExecuteTwiceCardSaid : Prop := Claim7.holds Tryz.pinned (.plain (OpenSpec.ofChange fnExecuteTwiceSpec)) fnExecuteTwiceCard

/-- THE TIED CARD OF 'laws.FnExecuteWhat'. -/
def fnExecuteWhatCard : Claim7 := { stood := { row := fnExecuteWhatRow, standIns := [], harness := (true, "3d31fffe0e7f2f3809f8f5b05f0aaa9165427e1982440e4b7557c38c542767c8"), looks := true }, kinds := [], alts := [], laidByText := true, laidKinds := [.data, .data, .data, .data, .handle, .sentinel, .sentinel, .pinned], laidTests := true, laidLooks := .later }
def FnExecuteWhatCardSaid : Prop := Claim7.holds Tryz.pinned (.plain (OpenSpec.ofChange fnExecuteWhatSpec)) fnExecuteWhatCard

/-- THE SECOND FORM's CARD OF 'laws.FnExecuteRing'. -/
def fnExecuteRingUptoCard : Claim7 := { stood := { row := fnExecuteRingUptoRow, standIns := [], harness := (true, "3d31fffe0e7f2f3809f8f5b05f0aaa9165427e1982440e4b7557c38c542767c8"), looks := true }, kinds := [], alts := [], laidByText := true, laidKinds := [.data, .data, .data, .data, .handle, .sentinel, .sentinel, .pinned], laidTests := true, laidLooks := .later }
def FnExecuteRingUptoCardSaid : Prop := Claim7.holds Tryz.pinned (.plain (OpenSpec.upto fnExecuteRingSpec)) fnExecuteRingUptoCard

/-- THE SECOND FORM's CARD OF 'laws.FnExecutePlot'. -/
def fnExecutePlotUptoCard : Claim7 := { stood := { row := fnExecutePlotUptoRow, standIns := [], harness := (true, "3d31fffe0e7f2f3809f8f5b05f0aaa9165427e1982440e4b7557c38c542767c8"), looks := true }, kinds := [], alts := [], laidByText := true, laidKinds := [.data, .data, .data, .data, .handle, .sentinel, .sentinel, .pinned], laidTests := true, laidLooks := .later }
def FnExecutePlotUptoCardSaid : Prop := Claim7.holds Tryz.pinned (.plain (OpenSpec.upto fnExecutePlotSpec)) fnExecutePlotUptoCard

/-- THE SECOND FORM's CARD OF 'laws.FnExecuteSet'. -/
def fnExecuteSetUptoCard : Claim7 := { stood := { row := fnExecuteSetUptoRow, standIns := [], harness := (true, "3d31fffe0e7f2f3809f8f5b05f0aaa9165427e1982440e4b7557c38c542767c8"), looks := true }, kinds := [], alts := [], laidByText := true, laidKinds := [.data, .data, .data, .data, .handle, .sentinel, .sentinel, .pinned], laidTests := true, laidLooks := .later }
def FnExecuteSetUptoCardSaid : Prop := Claim7.holds Tryz.pinned (.plain (OpenSpec.upto fnExecuteSetSpec)) fnExecuteSetUptoCard

/-- THE SECOND FORM's CARD OF 'laws.FnExactExecute'. -/
def fnExactExecuteUptoCard : Claim7 := { stood := { row := fnExactExecuteUptoRow, standIns := [], harness := (true, "3d31fffe0e7f2f3809f8f5b05f0aaa9165427e1982440e4b7557c38c542767c8"), looks := true }, kinds := [], alts := [], laidByText := true, laidKinds := [.data, .data, .data, .data, .handle, .sentinel, .sentinel, .pinned], laidTests := true, laidLooks := .later }
def FnExactExecuteUptoCardSaid : Prop := Claim7.holds Tryz.pinned (.plain (OpenSpec.upto fnExactExecuteSpec)) fnExactExecuteUptoCard

/-- THE SECOND FORM's CARD OF 'laws.FnExecuteNone'. -/
def fnExecuteNoneUptoCard : Claim7 := { stood := { row := fnExecuteNoneUptoRow, standIns := [], harness := (true, "3d31fffe0e7f2f3809f8f5b05f0aaa9165427e1982440e4b7557c38c542767c8"), looks := true }, kinds := [], alts := [], laidByText := true, laidKinds := [.data, .data, .data, .data, .handle, .sentinel, .sentinel, .pinned], laidTests := true, laidLooks := .later }
def FnExecuteNoneUptoCardSaid : Prop := Claim7.holds Tryz.pinned (.plain (OpenSpec.upto fnExecuteNoneSpec)) fnExecuteNoneUptoCard

/-- THE SECOND FORM's CARD OF 'laws.FnExecuteTwice'. -/
def fnExecuteTwiceUptoCard : Claim7 := { stood := { row := fnExecuteTwiceUptoRow, standIns := [], harness := (true, "3d31fffe0e7f2f3809f8f5b05f0aaa9165427e1982440e4b7557c38c542767c8"), looks := true }, kinds := [], alts := [], laidByText := true, laidKinds := [.data, .data, .data, .data, .handle, .sentinel, .sentinel, .pinned], laidTests := true, laidLooks := .later }
def FnExecuteTwiceUptoCardSaid : Prop := Claim7.holds Tryz.pinned (.plain (OpenSpec.upto fnExecuteTwiceSpec)) fnExecuteTwiceUptoCard

/-- THE SECOND FORM's CARD OF 'laws.FnExecuteWhat'. -/
def fnExecuteWhatUptoCard : Claim7 := { stood := { row := fnExecuteWhatUptoRow, standIns := [], harness := (true, "3d31fffe0e7f2f3809f8f5b05f0aaa9165427e1982440e4b7557c38c542767c8"), looks := true }, kinds := [], alts := [], laidByText := true, laidKinds := [.data, .data, .data, .data, .handle, .sentinel, .sentinel, .pinned], laidTests := true, laidLooks := .later }
def FnExecuteWhatUptoCardSaid : Prop := Claim7.holds Tryz.pinned (.plain (OpenSpec.upto fnExecuteWhatSpec)) fnExecuteWhatUptoCard
end Rows
end Go.Proofs.YtddhmidegldhdaaGreatDoor

/-
  DERIVED. GIVEN WITH THE SEED: THE CARDS: each row of YtedchegejalolaaGreatDoorRows.lean that lists a variable, with what it lists TIED to the program's text (the seventh form; the later family's looks); each row that meets fmt, with fmt's text TOLD by the authors' own Lean function (tested against real Go, not proved from fmt's source: count such statements apart). THE CARD IS WHAT COUNTS. Prove the row's statement (the work); the ties are given (YtedchegejalolaaGreatDoorTie.lean); close each card by the builder's one call (the guide's Derived/Test/ToyasCard.lean, 'card_holds'). Laid BY PROGRAM, IN A SANDBOX (cutbox-door.mjs). By AI agents, Wed Nov 11 2026. No macro, syntax, notation, axiom, sorry.
-/
import Derived.Test.YtedchegejalolaaGreatDoorRows
import GoSem.ClaimSeven
namespace Go.Proofs.YtedchegejalolaaGreatDoor
namespace Rows

/-- THE TIED CARD OF 'damaskkeep.DeskParts'. -/
def deskPartsCard : Claim7 := { stood := { row := deskPartsRow, standIns := [], harness := (true, "7d868695212a17cd7b1c38adbaa576fe91b5407f9bbacdf1bcd84507769dc5e1"), looks := true }, kinds := [], alts := [], laidByText := true, laidKinds := [.data, .data, .data, .data, .sentinel, .sentinel, .pinned], laidTests := true, laidLooks := .later }
def DeskPartsCardSaid : Prop := Claim7.holds Tryz.pinned (.plain (OpenSpec.ofChange deskPartsSpec)) deskPartsCard

/-- THE TIED CARD OF 'damaskkeep.DeskSaved'. -/
def deskSavedCard : Claim7 := { stood := { row := deskSavedRow, standIns := [], harness := (true, "7d868695212a17cd7b1c38adbaa576fe91b5407f9bbacdf1bcd84507769dc5e1"), looks := true }, kinds := [], alts := [], laidByText := true, laidKinds := [.data, .data, .data, .data, .sentinel, .sentinel, .pinned], laidTests := true, laidLooks := .later }
def DeskSavedCardSaid : Prop := Claim7.holds Tryz.pinned (.plain (OpenSpec.ofChange deskSavedSpec)) deskSavedCard

/-- THE TIED CARD OF 'damaskkeep.DeskBad'. -/
def deskBadCard : Claim7 := { stood := { row := deskBadRow, standIns := [], harness := (true, "7d868695212a17cd7b1c38adbaa576fe91b5407f9bbacdf1bcd84507769dc5e1"), looks := true }, kinds := [], alts := [], laidByText := true, laidKinds := [.data, .data, .data, .data, .sentinel, .sentinel, .pinned], laidTests := true, laidLooks := .later }
def DeskBadCardSaid : Prop := Claim7.holds Tryz.pinned (.plain (OpenSpec.ofChange deskBadSpec)) deskBadCard

/-- THE SECOND FORM's CARD OF 'damaskkeep.DeskParts'. -/
def deskPartsUptoCard : Claim7 := { stood := { row := deskPartsUptoRow, standIns := [], harness := (true, "7d868695212a17cd7b1c38adbaa576fe91b5407f9bbacdf1bcd84507769dc5e1"), looks := true }, kinds := [], alts := [], laidByText := true, laidKinds := [.data, .data, .data, .data, .sentinel, .sentinel, .pinned], laidTests := true, laidLooks := .later }
def DeskPartsUptoCardSaid : Prop := Claim7.holds Tryz.pinned (.plain (OpenSpec.upto deskPartsSpec)) deskPartsUptoCard

/-- THE SECOND FORM's CARD OF 'damaskkeep.DeskSaved'. -/
def deskSavedUptoCard : Claim7 := { stood := { row := deskSavedUptoRow, standIns := [], harness := (true, "7d868695212a17cd7b1c38adbaa576fe91b5407f9bbacdf1bcd84507769dc5e1"), looks := true }, kinds := [], alts := [], laidByText := true, laidKinds := [.data, .data, .data, .data, .sentinel, .sentinel, .pinned], laidTests := true, laidLooks := .later }
def DeskSavedUptoCardSaid : Prop := Claim7.holds Tryz.pinned (.plain (OpenSpec.upto deskSavedSpec)) deskSavedUptoCard

/-- THE SECOND FORM's CARD OF 'damaskkeep.DeskBad'. -/
def deskBadUptoCard : Claim7 := { stood := { row := deskBadUptoRow, standIns := [], harness := (true, "7d868695212a17cd7b1c38adbaa576fe91b5407f9bbacdf1bcd84507769dc5e1"), looks := true }, kinds := [], alts := [], laidByText := true, laidKinds := [.data, .data, .data, .data, .sentinel, .sentinel, .pinned], laidTests := true, laidLooks := .later }
def DeskBadUptoCardSaid : Prop := Claim7.holds Tryz.pinned (.plain (OpenSpec.upto deskBadSpec)) deskBadUptoCard
end Rows
end Go.Proofs.YtedchegejalolaaGreatDoor

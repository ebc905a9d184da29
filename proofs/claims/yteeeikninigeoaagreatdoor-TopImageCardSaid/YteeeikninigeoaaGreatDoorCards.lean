/-
  DERIVED. GIVEN WITH THE SEED: THE CARDS: each row of YteeeikninigeoaaGreatDoorRows.lean that lists a variable, with what it lists TIED to the program's text (the seventh form; the later family's looks); each row that meets fmt, with fmt's text TOLD by the authors' own Lean function (tested against real Go, not proved from fmt's source: count such statements apart). THE CARD IS WHAT COUNTS. Prove the row's statement (the work); the ties are given (YteeeikninigeoaaGreatDoorTie.lean); close each card by the builder's one call (the guide's Derived/Test/ToyasCard.lean, 'card_holds'). Laid BY PROGRAM, IN A SANDBOX (cutbox-door.mjs). By AI agents, Wed Nov 11 2026. No macro, syntax, notation, axiom, sorry.
-/
import Derived.Test.YteeeikninigeoaaGreatDoorRows
import GoSem.ClaimSeven
namespace Go.Proofs.YteeeikninigeoaaGreatDoor
namespace Rows

/-- THE TIED CARD OF 'damaskkeep.QueryMorgan'. -/
def queryMorganCard : Claim7 := { stood := { row := queryMorganRow, standIns := [], harness := (true, "7f52103261fbd0268ec841fba7feb598f857dce1de3892e4e530f6e3e037ef1e"), looks := true }, kinds := [], alts := [], laidByText := true, laidKinds := [.data, .data, .data], laidTests := true, laidLooks := .later }
def QueryMorganCardSaid : Prop := Claim7.holds Tryz.pinned (.plain (OpenSpec.ofChange queryMorganSpec)) queryMorganCard

/-- THE TIED CARD OF 'damaskkeep.DeskParts'. -/
def deskPartsCard : Claim7 := { stood := { row := deskPartsRow, standIns := [], harness := (true, "7f52103261fbd0268ec841fba7feb598f857dce1de3892e4e530f6e3e037ef1e"), looks := true }, kinds := [], alts := [], laidByText := true, laidKinds := [.data, .data, .data, .data, .sentinel, .sentinel, .pinned], laidTests := true, laidLooks := .later }
def DeskPartsCardSaid : Prop := Claim7.holds Tryz.pinned (.plain (OpenSpec.ofChange deskPartsSpec)) deskPartsCard

/-- THE TIED CARD OF 'damaskkeep.DeskSaved'. -/
def deskSavedCard : Claim7 := { stood := { row := deskSavedRow, standIns := [], harness := (true, "7f52103261fbd0268ec841fba7feb598f857dce1de3892e4e530f6e3e037ef1e"), looks := true }, kinds := [], alts := [], laidByText := true, laidKinds := [.data, .data, .data, .data, .sentinel, .sentinel, .pinned], laidTests := true, laidLooks := .later }
def DeskSavedCardSaid : Prop := Claim7.holds Tryz.pinned (.plain (OpenSpec.ofChange deskSavedSpec)) deskSavedCard

/-- THE TIED CARD OF 'damaskkeep.DeskBad'. -/
def deskBadCard : Claim7 := { stood := { row := deskBadRow, standIns := [], harness := (true, "7f52103261fbd0268ec841fba7feb598f857dce1de3892e4e530f6e3e037ef1e"), looks := true }, kinds := [], alts := [], laidByText := true, laidKinds := [.data, .data, .data, .data, .sentinel, .sentinel, .pinned], laidTests := true, laidLooks := .later }
def DeskBadCardSaid : Prop := Claim7.holds Tryz.pinned (.plain (OpenSpec.ofChange deskBadSpec)) deskBadCard

/-- THE TIED CARD OF 'damasktop.TopImage'. -/
def topImageCard : Claim7 := { stood := { row := topImageRow, standIns := [], harness := (true, "7f52103261fbd0268ec841fba7feb598f857dce1de3892e4e530f6e3e037ef1e"), looks := true }, kinds := [], alts := [], laidByText := true, laidKinds := [.data, .data, .data], laidTests := true, laidLooks := .later }
def TopImageCardSaid : Prop := Claim7.holds Tryz.pinned (.plain (OpenSpec.ofChange topImageSpec)) topImageCard

/-- THE SECOND FORM's CARD OF 'damaskkeep.QueryMorgan'. -/
def queryMorganUptoCard : Claim7 := { stood := { row := queryMorganUptoRow, standIns := [], harness := (true, "7f52103261fbd0268ec841fba7feb598f857dce1de3892e4e530f6e3e037ef1e"), looks := true }, kinds := [], alts := [], laidByText := true, laidKinds := [.data, .data, .data], laidTests := true, laidLooks := .later }
def QueryMorganUptoCardSaid : Prop := Claim7.holds Tryz.pinned (.plain (OpenSpec.upto queryMorganSpec)) queryMorganUptoCard

/-- THE SECOND FORM's CARD OF 'damaskkeep.DeskParts'. -/
def deskPartsUptoCard : Claim7 := { stood := { row := deskPartsUptoRow, standIns := [], harness := (true, "7f52103261fbd0268ec841fba7feb598f857dce1de3892e4e530f6e3e037ef1e"), looks := true }, kinds := [], alts := [], laidByText := true, laidKinds := [.data, .data, .data, .data, .sentinel, .sentinel, .pinned], laidTests := true, laidLooks := .later }
def DeskPartsUptoCardSaid : Prop := Claim7.holds Tryz.pinned (.plain (OpenSpec.upto deskPartsSpec)) deskPartsUptoCard

/-- THE SECOND FORM's CARD OF 'damaskkeep.DeskSaved'. -/
def deskSavedUptoCard : Claim7 := { stood := { row := deskSavedUptoRow, standIns := [], harness := (true, "7f52103261fbd0268ec841fba7feb598f857dce1de3892e4e530f6e3e037ef1e"), looks := true }, kinds := [], alts := [], laidByText := true, laidKinds := [.data, .data, .data, .data, .sentinel, .sentinel, .pinned], laidTests := true, laidLooks := .later }
def DeskSavedUptoCardSaid : Prop := Claim7.holds Tryz.pinned (.plain (OpenSpec.upto deskSavedSpec)) deskSavedUptoCard

/-- THE SECOND FORM's CARD OF 'damaskkeep.DeskBad'. -/
def deskBadUptoCard : Claim7 := { stood := { row := deskBadUptoRow, standIns := [], harness := (true, "7f52103261fbd0268ec841fba7feb598f857dce1de3892e4e530f6e3e037ef1e"), looks := true }, kinds := [], alts := [], laidByText := true, laidKinds := [.data, .data, .data, .data, .sentinel, .sentinel, .pinned], laidTests := true, laidLooks := .later }
def DeskBadUptoCardSaid : Prop := Claim7.holds Tryz.pinned (.plain (OpenSpec.upto deskBadSpec)) deskBadUptoCard

/-- THE SECOND FORM's CARD OF 'damasktop.TopImage'. -/
def topImageUptoCard : Claim7 := { stood := { row := topImageUptoRow, standIns := [], harness := (true, "7f52103261fbd0268ec841fba7feb598f857dce1de3892e4e530f6e3e037ef1e"), looks := true }, kinds := [], alts := [], laidByText := true, laidKinds := [.data, .data, .data], laidTests := true, laidLooks := .later }
def TopImageUptoCardSaid : Prop := Claim7.holds Tryz.pinned (.plain (OpenSpec.upto topImageSpec)) topImageUptoCard
end Rows
end Go.Proofs.YteeeikninigeoaaGreatDoor

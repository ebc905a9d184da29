/-
  No cell of these rows narrows 'for every input' (looked for: loops, veiled, ifaces, maps, wideKeys, modest, calm, conditions, laid).
  DERIVED. THE GIVEN ROWS OF THIS SEAT. 12 by the template 'for every input the law returns true; each argument reads behind the call as it read before'; 0 by the template 'total and deterministic' (their statements: YtmfmknpkeniifaaTotals.lean).
  GIVEN WITH THE SEED: the statements are not yours to turn. If you find one false, say at which input.
  Laid BY PROGRAM, IN A SANDBOX (cutbox-rows.mjs): the forced cells as the released guide's own fill.sh prints them over the translation af0d6e30ba7751bc… (all of the seat's roots in one cut). By AI agents, Wed Nov 11 2026. No macro, syntax, notation, axiom, sorry.
-/
import Derived.Test.YtmfmknpkeniifaaChecked
import GoSem.Claim
import GoSem.ClaimJoined
import GoSem.ClaimMapViews
import Derived.JoinedTies
import Derived.KernelRfl
namespace Go.Proofs.Ytmfmknpkeniifaa
/- THE CELL 'sum', in the pinned program and in every row, IS THE sha256 OF THE DUMP (.gsa) THAT YtmfmknpkeniifaaProg.lean LOADS. Nothing in Lean hashes anything: it is a label: what it is worth is what the hold of that sum in a sandbox is worth. -/
noncomputable def Try.pinned : Pinned := { name := "ytmfmknpkeniifaa", sum := "af0d6e30ba7751bc1deac976172d9b9d99ac71be1c9b03f7124e2e8f60e09adf", checked := Try.checked }
namespace Rows
def none {H : Type} : Left H := { results := [], args := [] }

/-- 'damaskkeep.ImageBack': WHATEVER THE INPUT: true; the input reads as it did. -/
def imageBackSpec : ChangeSpec := { name := "imageBack", fn := fun _ => fun
  | [d1, d2, d3] => { results := [.lit (.bool true)], args := [d1, d2, d3] }
  | _ => none }
def imageBackRow : OpenClaim := { program := "ytmfmknpkeniifaa", sum := "af0d6e30ba7751bc1deac976172d9b9d99ac71be1c9b03f7124e2e8f60e09adf", func := "damask/damaskkeep.ImageBack", spec := "imageBack", unfollowed := true, recurses := true, apart := false }
def ImageBackSaid : Prop := imageBackRow.holds Try.pinned (OpenSpec.ofChange imageBackSpec)

/-- ITS FALSE NEIGHBOUR: 'it returns false'. Refute it at one input. -/
def imageBackWrong : ChangeSpec := { name := "imageBack", fn := fun _ => fun
  | [d1, d2, d3] => { results := [.lit (.bool false)], args := [d1, d2, d3] }
  | _ => none }
def ImageBackWrongFalsely : Prop := imageBackRow.holds Try.pinned (OpenSpec.ofChange imageBackWrong)

/-- 'damaskkeep.ImageFixed': WHATEVER THE INPUT: true; the input reads as it did. -/
def imageFixedSpec : ChangeSpec := { name := "imageFixed", fn := fun _ => fun
  | [d] => { results := [.lit (.bool true)], args := [d] }
  | _ => none }
def imageFixedRow : OpenClaim := { program := "ytmfmknpkeniifaa", sum := "af0d6e30ba7751bc1deac976172d9b9d99ac71be1c9b03f7124e2e8f60e09adf", func := "damask/damaskkeep.ImageFixed", spec := "imageFixed", unfollowed := true, recurses := true, apart := false }
def ImageFixedSaid : Prop := imageFixedRow.holds Try.pinned (OpenSpec.ofChange imageFixedSpec)

/-- ITS FALSE NEIGHBOUR: 'it returns false'. Refute it at one input. -/
def imageFixedWrong : ChangeSpec := { name := "imageFixed", fn := fun _ => fun
  | [d] => { results := [.lit (.bool false)], args := [d] }
  | _ => none }
def ImageFixedWrongFalsely : Prop := imageFixedRow.holds Try.pinned (OpenSpec.ofChange imageFixedWrong)

/-- 'damaskkeep.ParenBack': WHATEVER THE INPUT: true; the input reads as it did. -/
def parenBackSpec : ChangeSpec := { name := "parenBack", fn := fun _ => fun
  | [d] => { results := [.lit (.bool true)], args := [d] }
  | _ => none }
def parenBackRow : OpenClaim := { program := "ytmfmknpkeniifaa", sum := "af0d6e30ba7751bc1deac976172d9b9d99ac71be1c9b03f7124e2e8f60e09adf", func := "damask/damaskkeep.ParenBack", spec := "parenBack", inPlace := ["internal/abi.NoEscape", "internal/bytealg.MakeNoZero"], apart := false }
def ParenBackSaid : Prop := parenBackRow.holds Try.pinned (OpenSpec.ofChange parenBackSpec)

/-- ITS FALSE NEIGHBOUR: 'it returns false'. Refute it at one input. -/
def parenBackWrong : ChangeSpec := { name := "parenBack", fn := fun _ => fun
  | [d] => { results := [.lit (.bool false)], args := [d] }
  | _ => none }
def ParenBackWrongFalsely : Prop := parenBackRow.holds Try.pinned (OpenSpec.ofChange parenBackWrong)

/-- 'damaskkeep.StabDual': WHATEVER THE INPUT: true; the input reads as it did. -/
def stabDualSpec : ChangeSpec := { name := "stabDual", fn := fun _ => fun
  | [d] => { results := [.lit (.bool true)], args := [d] }
  | _ => none }
def stabDualRow : OpenClaim := { program := "ytmfmknpkeniifaa", sum := "af0d6e30ba7751bc1deac976172d9b9d99ac71be1c9b03f7124e2e8f60e09adf", func := "damask/damaskkeep.StabDual", spec := "stabDual", unfollowed := true, recurses := true, apart := false }
def StabDualSaid : Prop := stabDualRow.holds Try.pinned (OpenSpec.ofChange stabDualSpec)

/-- ITS FALSE NEIGHBOUR: 'it returns false'. Refute it at one input. -/
def stabDualWrong : ChangeSpec := { name := "stabDual", fn := fun _ => fun
  | [d] => { results := [.lit (.bool false)], args := [d] }
  | _ => none }
def StabDualWrongFalsely : Prop := stabDualRow.holds Try.pinned (OpenSpec.ofChange stabDualWrong)

/-- 'damaskkeep.StabHelly': WHATEVER THE INPUT: true; the input reads as it did. -/
def stabHellySpec : ChangeSpec := { name := "stabHelly", fn := fun _ => fun
  | [d1, d2] => { results := [.lit (.bool true)], args := [d1, d2] }
  | _ => none }
def stabHellyRow : OpenClaim := { program := "ytmfmknpkeniifaa", sum := "af0d6e30ba7751bc1deac976172d9b9d99ac71be1c9b03f7124e2e8f60e09adf", func := "damask/damaskkeep.StabHelly", spec := "stabHelly", unfollowed := true, recurses := true, apart := false }
def StabHellySaid : Prop := stabHellyRow.holds Try.pinned (OpenSpec.ofChange stabHellySpec)

/-- ITS FALSE NEIGHBOUR: 'it returns false'. Refute it at one input. -/
def stabHellyWrong : ChangeSpec := { name := "stabHelly", fn := fun _ => fun
  | [d1, d2] => { results := [.lit (.bool false)], args := [d1, d2] }
  | _ => none }
def StabHellyWrongFalsely : Prop := stabHellyRow.holds Try.pinned (OpenSpec.ofChange stabHellyWrong)

/-- 'damaskkeep.StabRooms': WHATEVER THE INPUT: true; the input reads as it did. -/
def stabRoomsSpec : ChangeSpec := { name := "stabRooms", fn := fun _ => fun
  | [d] => { results := [.lit (.bool true)], args := [d] }
  | _ => none }
def stabRoomsRow : OpenClaim := { program := "ytmfmknpkeniifaa", sum := "af0d6e30ba7751bc1deac976172d9b9d99ac71be1c9b03f7124e2e8f60e09adf", func := "damask/damaskkeep.StabRooms", spec := "stabRooms", unfollowed := true, recurses := true, apart := false }
def StabRoomsSaid : Prop := stabRoomsRow.holds Try.pinned (OpenSpec.ofChange stabRoomsSpec)

/-- ITS FALSE NEIGHBOUR: 'it returns false'. Refute it at one input. -/
def stabRoomsWrong : ChangeSpec := { name := "stabRooms", fn := fun _ => fun
  | [d] => { results := [.lit (.bool false)], args := [d] }
  | _ => none }
def StabRoomsWrongFalsely : Prop := stabRoomsRow.holds Try.pinned (OpenSpec.ofChange stabRoomsWrong)

/-- 'damaskkeep.SkyMirsky': WHATEVER THE INPUT: true; the input reads as it did. -/
def skyMirskySpec : ChangeSpec := { name := "skyMirsky", fn := fun _ => fun
  | [d1, d2] => { results := [.lit (.bool true)], args := [d1, d2] }
  | _ => none }
def skyMirskyRow : OpenClaim := { program := "ytmfmknpkeniifaa", sum := "af0d6e30ba7751bc1deac976172d9b9d99ac71be1c9b03f7124e2e8f60e09adf", func := "damask/damaskkeep.SkyMirsky", spec := "skyMirsky", unfollowed := true, recurses := true, apart := false }
def SkyMirskySaid : Prop := skyMirskyRow.holds Try.pinned (OpenSpec.ofChange skyMirskySpec)

/-- ITS FALSE NEIGHBOUR: 'it returns false'. Refute it at one input. -/
def skyMirskyWrong : ChangeSpec := { name := "skyMirsky", fn := fun _ => fun
  | [d1, d2] => { results := [.lit (.bool false)], args := [d1, d2] }
  | _ => none }
def SkyMirskyWrongFalsely : Prop := skyMirskyRow.holds Try.pinned (OpenSpec.ofChange skyMirskyWrong)

/-- 'damaskkeep.SkyCovers': WHATEVER THE INPUT: true; the input reads as it did. -/
def skyCoversSpec : ChangeSpec := { name := "skyCovers", fn := fun _ => fun
  | [d] => { results := [.lit (.bool true)], args := [d] }
  | _ => none }
def skyCoversRow : OpenClaim := { program := "ytmfmknpkeniifaa", sum := "af0d6e30ba7751bc1deac976172d9b9d99ac71be1c9b03f7124e2e8f60e09adf", func := "damask/damaskkeep.SkyCovers", spec := "skyCovers", unfollowed := true, recurses := true, apart := false }
def SkyCoversSaid : Prop := skyCoversRow.holds Try.pinned (OpenSpec.ofChange skyCoversSpec)

/-- ITS FALSE NEIGHBOUR: 'it returns false'. Refute it at one input. -/
def skyCoversWrong : ChangeSpec := { name := "skyCovers", fn := fun _ => fun
  | [d] => { results := [.lit (.bool false)], args := [d] }
  | _ => none }
def SkyCoversWrongFalsely : Prop := skyCoversRow.holds Try.pinned (OpenSpec.ofChange skyCoversWrong)

/-- 'damasktop.TopLayers': WHATEVER THE INPUT: true; the input reads as it did. -/
def topLayersSpec : ChangeSpec := { name := "topLayers", fn := fun _ => fun
  | [d1, d2] => { results := [.lit (.bool true)], args := [d1, d2] }
  | _ => none }
def topLayersRow : OpenClaim := { program := "ytmfmknpkeniifaa", sum := "af0d6e30ba7751bc1deac976172d9b9d99ac71be1c9b03f7124e2e8f60e09adf", func := "damask/damasktop.TopLayers", spec := "topLayers", unfollowed := true, recurses := true, apart := false }
def TopLayersSaid : Prop := topLayersRow.holds Try.pinned (OpenSpec.ofChange topLayersSpec)

/-- ITS FALSE NEIGHBOUR: 'it returns false'. Refute it at one input. -/
def topLayersWrong : ChangeSpec := { name := "topLayers", fn := fun _ => fun
  | [d1, d2] => { results := [.lit (.bool false)], args := [d1, d2] }
  | _ => none }
def TopLayersWrongFalsely : Prop := topLayersRow.holds Try.pinned (OpenSpec.ofChange topLayersWrong)

/-- 'damaskkeep.HullHolds': WHATEVER THE INPUT: true; the input reads as it did. -/
def hullHoldsSpec : ChangeSpec := { name := "hullHolds", fn := fun _ => fun
  | [d] => { results := [.lit (.bool true)], args := [d] }
  | _ => none }
def hullHoldsRow : OpenClaim := { program := "ytmfmknpkeniifaa", sum := "af0d6e30ba7751bc1deac976172d9b9d99ac71be1c9b03f7124e2e8f60e09adf", func := "damask/damaskkeep.HullHolds", spec := "hullHolds", unfollowed := true, recurses := true, apart := false }
def HullHoldsSaid : Prop := hullHoldsRow.holds Try.pinned (OpenSpec.ofChange hullHoldsSpec)

/-- ITS FALSE NEIGHBOUR: 'it returns false'. Refute it at one input. -/
def hullHoldsWrong : ChangeSpec := { name := "hullHolds", fn := fun _ => fun
  | [d] => { results := [.lit (.bool false)], args := [d] }
  | _ => none }
def HullHoldsWrongFalsely : Prop := hullHoldsRow.holds Try.pinned (OpenSpec.ofChange hullHoldsWrong)

/-- 'damaskkeep.HullFarthest': WHATEVER THE INPUT: true; the input reads as it did. -/
def hullFarthestSpec : ChangeSpec := { name := "hullFarthest", fn := fun _ => fun
  | [d1, d2, d3] => { results := [.lit (.bool true)], args := [d1, d2, d3] }
  | _ => none }
def hullFarthestRow : OpenClaim := { program := "ytmfmknpkeniifaa", sum := "af0d6e30ba7751bc1deac976172d9b9d99ac71be1c9b03f7124e2e8f60e09adf", func := "damask/damaskkeep.HullFarthest", spec := "hullFarthest", unfollowed := true, recurses := true, apart := false }
def HullFarthestSaid : Prop := hullFarthestRow.holds Try.pinned (OpenSpec.ofChange hullFarthestSpec)

/-- ITS FALSE NEIGHBOUR: 'it returns false'. Refute it at one input. -/
def hullFarthestWrong : ChangeSpec := { name := "hullFarthest", fn := fun _ => fun
  | [d1, d2, d3] => { results := [.lit (.bool false)], args := [d1, d2, d3] }
  | _ => none }
def HullFarthestWrongFalsely : Prop := hullFarthestRow.holds Try.pinned (OpenSpec.ofChange hullFarthestWrong)

/-- 'damaskkeep.HullMiddle': WHATEVER THE INPUT: true; the input reads as it did. -/
def hullMiddleSpec : ChangeSpec := { name := "hullMiddle", fn := fun _ => fun
  | [d1, d2, d3, d4, d5] => { results := [.lit (.bool true)], args := [d1, d2, d3, d4, d5] }
  | _ => none }
def hullMiddleRow : OpenClaim := { program := "ytmfmknpkeniifaa", sum := "af0d6e30ba7751bc1deac976172d9b9d99ac71be1c9b03f7124e2e8f60e09adf", func := "damask/damaskkeep.HullMiddle", spec := "hullMiddle", unfollowed := true, recurses := true, apart := false }
def HullMiddleSaid : Prop := hullMiddleRow.holds Try.pinned (OpenSpec.ofChange hullMiddleSpec)

/-- ITS FALSE NEIGHBOUR: 'it returns false'. Refute it at one input. -/
def hullMiddleWrong : ChangeSpec := { name := "hullMiddle", fn := fun _ => fun
  | [d1, d2, d3, d4, d5] => { results := [.lit (.bool false)], args := [d1, d2, d3, d4, d5] }
  | _ => none }
def HullMiddleWrongFalsely : Prop := hullMiddleRow.holds Try.pinned (OpenSpec.ofChange hullMiddleWrong)

/- THE SECOND FORM. 'bulk': how many values and letters a reading holds, each counted each time it is reached (what is shared counts as often as it is met; a slice's spare places count too). A statement '..UptoSaid' is the law's where the arguments, and the package variables that the reading takes, are together of bulk at most 1048576: NARROWER than '..Said'. Prove '..Said' where nothing that the law and all that it calls make is longer than what came in: it says more and counts as full. Else prove '..UptoSaid'. A law counts once. -/
mutual
def uptoBulk {H : Type} : DataW H → Nat
  | .lit (.string bytes) => bytes.length + 1
  | .lit _ => 1
  | .nil => 1
  | .ptr d => uptoBulk d + 1
  | .slice elems spare => uptoBulkAll elems + uptoBulkAll spare + 1
  | .agg parts => uptoBulkAll parts + 1
  | .iface _ d => uptoBulk d + 1
  | .map entries => uptoBulkEntries entries + 1
  | .held _ => 1
def uptoBulkAll {H : Type} : List (DataW H) → Nat
  | [] => 0
  | d :: r => uptoBulk d + uptoBulkAll r
def uptoBulkEntries {H : Type} : List (Lit × DataW H) → Nat
  | [] => 0
  | x :: r => uptoBulkEntry x + uptoBulkEntries r
def uptoBulkEntry {H : Type} : Lit × DataW H → Nat
  | (.string bytes, d) => bytes.length + uptoBulk d + 1
  | (_, d) => uptoBulk d + 1
 end
def uptoSmall : (H : Type) → List (DataW H) → Bool := fun _ ds => decide (uptoBulkAll ds ≤ 1048576)
def OpenSpec.upto (s : _root_.Go.ChangeSpec) : _root_.Go.OpenSpec := { _root_.Go.OpenSpec.ofChange s with cond := some uptoSmall }

/-- 'damaskkeep.ImageBack', WHERE WHAT IT READS IS OF BULK AT MOST 1048576: true; the input reads as it did. -/
def imageBackUptoRow : OpenClaim := { program := "ytmfmknpkeniifaa", sum := "af0d6e30ba7751bc1deac976172d9b9d99ac71be1c9b03f7124e2e8f60e09adf", func := "damask/damaskkeep.ImageBack", spec := "imageBack", unfollowed := true, recurses := true, apart := false, narrowed := true }
def ImageBackUptoSaid : Prop := imageBackUptoRow.holds Try.pinned (OpenSpec.upto imageBackSpec)

/-- 'damaskkeep.ImageFixed', WHERE WHAT IT READS IS OF BULK AT MOST 1048576: true; the input reads as it did. -/
def imageFixedUptoRow : OpenClaim := { program := "ytmfmknpkeniifaa", sum := "af0d6e30ba7751bc1deac976172d9b9d99ac71be1c9b03f7124e2e8f60e09adf", func := "damask/damaskkeep.ImageFixed", spec := "imageFixed", unfollowed := true, recurses := true, apart := false, narrowed := true }
def ImageFixedUptoSaid : Prop := imageFixedUptoRow.holds Try.pinned (OpenSpec.upto imageFixedSpec)

/-- 'damaskkeep.ParenBack', WHERE WHAT IT READS IS OF BULK AT MOST 1048576: true; the input reads as it did. -/
def parenBackUptoRow : OpenClaim := { program := "ytmfmknpkeniifaa", sum := "af0d6e30ba7751bc1deac976172d9b9d99ac71be1c9b03f7124e2e8f60e09adf", func := "damask/damaskkeep.ParenBack", spec := "parenBack", inPlace := ["internal/abi.NoEscape", "internal/bytealg.MakeNoZero"], apart := false, narrowed := true }
def ParenBackUptoSaid : Prop := parenBackUptoRow.holds Try.pinned (OpenSpec.upto parenBackSpec)

/-- 'damaskkeep.StabDual', WHERE WHAT IT READS IS OF BULK AT MOST 1048576: true; the input reads as it did. -/
def stabDualUptoRow : OpenClaim := { program := "ytmfmknpkeniifaa", sum := "af0d6e30ba7751bc1deac976172d9b9d99ac71be1c9b03f7124e2e8f60e09adf", func := "damask/damaskkeep.StabDual", spec := "stabDual", unfollowed := true, recurses := true, apart := false, narrowed := true }
def StabDualUptoSaid : Prop := stabDualUptoRow.holds Try.pinned (OpenSpec.upto stabDualSpec)

/-- 'damaskkeep.StabHelly', WHERE WHAT IT READS IS OF BULK AT MOST 1048576: true; the input reads as it did. -/
def stabHellyUptoRow : OpenClaim := { program := "ytmfmknpkeniifaa", sum := "af0d6e30ba7751bc1deac976172d9b9d99ac71be1c9b03f7124e2e8f60e09adf", func := "damask/damaskkeep.StabHelly", spec := "stabHelly", unfollowed := true, recurses := true, apart := false, narrowed := true }
def StabHellyUptoSaid : Prop := stabHellyUptoRow.holds Try.pinned (OpenSpec.upto stabHellySpec)

/-- 'damaskkeep.StabRooms', WHERE WHAT IT READS IS OF BULK AT MOST 1048576: true; the input reads as it did. -/
def stabRoomsUptoRow : OpenClaim := { program := "ytmfmknpkeniifaa", sum := "af0d6e30ba7751bc1deac976172d9b9d99ac71be1c9b03f7124e2e8f60e09adf", func := "damask/damaskkeep.StabRooms", spec := "stabRooms", unfollowed := true, recurses := true, apart := false, narrowed := true }
def StabRoomsUptoSaid : Prop := stabRoomsUptoRow.holds Try.pinned (OpenSpec.upto stabRoomsSpec)

/-- 'damaskkeep.SkyMirsky', WHERE WHAT IT READS IS OF BULK AT MOST 1048576: true; the input reads as it did. -/
def skyMirskyUptoRow : OpenClaim := { program := "ytmfmknpkeniifaa", sum := "af0d6e30ba7751bc1deac976172d9b9d99ac71be1c9b03f7124e2e8f60e09adf", func := "damask/damaskkeep.SkyMirsky", spec := "skyMirsky", unfollowed := true, recurses := true, apart := false, narrowed := true }
def SkyMirskyUptoSaid : Prop := skyMirskyUptoRow.holds Try.pinned (OpenSpec.upto skyMirskySpec)

/-- 'damaskkeep.SkyCovers', WHERE WHAT IT READS IS OF BULK AT MOST 1048576: true; the input reads as it did. -/
def skyCoversUptoRow : OpenClaim := { program := "ytmfmknpkeniifaa", sum := "af0d6e30ba7751bc1deac976172d9b9d99ac71be1c9b03f7124e2e8f60e09adf", func := "damask/damaskkeep.SkyCovers", spec := "skyCovers", unfollowed := true, recurses := true, apart := false, narrowed := true }
def SkyCoversUptoSaid : Prop := skyCoversUptoRow.holds Try.pinned (OpenSpec.upto skyCoversSpec)

/-- 'damasktop.TopLayers', WHERE WHAT IT READS IS OF BULK AT MOST 1048576: true; the input reads as it did. -/
def topLayersUptoRow : OpenClaim := { program := "ytmfmknpkeniifaa", sum := "af0d6e30ba7751bc1deac976172d9b9d99ac71be1c9b03f7124e2e8f60e09adf", func := "damask/damasktop.TopLayers", spec := "topLayers", unfollowed := true, recurses := true, apart := false, narrowed := true }
def TopLayersUptoSaid : Prop := topLayersUptoRow.holds Try.pinned (OpenSpec.upto topLayersSpec)

/-- 'damaskkeep.HullHolds', WHERE WHAT IT READS IS OF BULK AT MOST 1048576: true; the input reads as it did. -/
def hullHoldsUptoRow : OpenClaim := { program := "ytmfmknpkeniifaa", sum := "af0d6e30ba7751bc1deac976172d9b9d99ac71be1c9b03f7124e2e8f60e09adf", func := "damask/damaskkeep.HullHolds", spec := "hullHolds", unfollowed := true, recurses := true, apart := false, narrowed := true }
def HullHoldsUptoSaid : Prop := hullHoldsUptoRow.holds Try.pinned (OpenSpec.upto hullHoldsSpec)

/-- 'damaskkeep.HullFarthest', WHERE WHAT IT READS IS OF BULK AT MOST 1048576: true; the input reads as it did. -/
def hullFarthestUptoRow : OpenClaim := { program := "ytmfmknpkeniifaa", sum := "af0d6e30ba7751bc1deac976172d9b9d99ac71be1c9b03f7124e2e8f60e09adf", func := "damask/damaskkeep.HullFarthest", spec := "hullFarthest", unfollowed := true, recurses := true, apart := false, narrowed := true }
def HullFarthestUptoSaid : Prop := hullFarthestUptoRow.holds Try.pinned (OpenSpec.upto hullFarthestSpec)

/-- 'damaskkeep.HullMiddle', WHERE WHAT IT READS IS OF BULK AT MOST 1048576: true; the input reads as it did. -/
def hullMiddleUptoRow : OpenClaim := { program := "ytmfmknpkeniifaa", sum := "af0d6e30ba7751bc1deac976172d9b9d99ac71be1c9b03f7124e2e8f60e09adf", func := "damask/damaskkeep.HullMiddle", spec := "hullMiddle", unfollowed := true, recurses := true, apart := false, narrowed := true }
def HullMiddleUptoSaid : Prop := hullMiddleUptoRow.holds Try.pinned (OpenSpec.upto hullMiddleSpec)

end Rows
end Go.Proofs.Ytmfmknpkeniifaa

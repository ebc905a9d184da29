/-
  No cell of these rows narrows 'for every input' (looked for: loops, veiled, ifaces, maps, wideKeys, modest, calm, conditions, laid).
  DERIVED. THE GIVEN ROWS OF THIS SEAT. 12 by the template 'for every input the law returns true; each argument reads behind the call as it read before'; 0 by the template 'total and deterministic' (their statements: YtlmdlholmlbcbaaTotals.lean).
  GIVEN WITH THE SEED: the statements are not yours to turn. If you find one false, say at which input.
  Laid BY PROGRAM, IN A SANDBOX (cutbox-rows.mjs): the forced cells as the released guide's own fill.sh prints them over the translation ae7332bd90b38201… (all of the seat's roots in one cut). By AI agents, Wed Nov 11 2026. No macro, syntax, notation, axiom, sorry.
-/
import Derived.Test.YtlmdlholmlbcbaaChecked
import GoSem.Claim
import GoSem.ClaimJoined
import GoSem.ClaimMapViews
import Derived.JoinedTies
import Derived.KernelRfl
namespace Go.Proofs.Ytlmdlholmlbcbaa
/- THE CELL 'sum', in the pinned program and in every row, IS THE sha256 OF THE DUMP (.gsa) THAT YtlmdlholmlbcbaaProg.lean LOADS. Nothing in Lean hashes anything: it is a label: what it is worth is what the hold of that sum in a sandbox is worth. -/
noncomputable def Try.pinned : Pinned := { name := "ytlmdlholmlbcbaa", sum := "ae7332bd90b382014eaf24b756f14edaa14da7ee9c03dec913e2795bfa5c99c8", checked := Try.checked }
namespace Rows
def none {H : Type} : Left H := { results := [], args := [] }

/-- 'damaskkeep.StabDual': WHATEVER THE INPUT: true; the input reads as it did. -/
def stabDualSpec : ChangeSpec := { name := "stabDual", fn := fun _ => fun
  | [d] => { results := [.lit (.bool true)], args := [d] }
  | _ => none }
def stabDualRow : OpenClaim := { program := "ytlmdlholmlbcbaa", sum := "ae7332bd90b382014eaf24b756f14edaa14da7ee9c03dec913e2795bfa5c99c8", func := "damask/damaskkeep.StabDual", spec := "stabDual", unfollowed := true, recurses := true, apart := false }
def StabDualSaid : Prop := stabDualRow.holds Try.pinned (OpenSpec.ofChange stabDualSpec)

/-- ITS FALSE NEIGHBOUR: 'it returns false'. Refute it at one input. -/
def stabDualWrong : ChangeSpec := { name := "stabDual", fn := fun _ => fun
  | [d] => { results := [.lit (.bool false)], args := [d] }
  | _ => none }
def StabDualWrongFalsely : Prop := stabDualRow.holds Try.pinned (OpenSpec.ofChange stabDualWrong)

/-- 'damaskkeep.StabHelly': WHATEVER THE INPUT: true; the input reads as it did. -/
def stabHellySpec : ChangeSpec := { name := "stabHelly", fn := fun _ => fun
  | [d1, d2] => { results := [.lit (.bool true)], args := [d1, d2] }
  | _ => none }
def stabHellyRow : OpenClaim := { program := "ytlmdlholmlbcbaa", sum := "ae7332bd90b382014eaf24b756f14edaa14da7ee9c03dec913e2795bfa5c99c8", func := "damask/damaskkeep.StabHelly", spec := "stabHelly", unfollowed := true, recurses := true, apart := false }
def StabHellySaid : Prop := stabHellyRow.holds Try.pinned (OpenSpec.ofChange stabHellySpec)

/-- ITS FALSE NEIGHBOUR: 'it returns false'. Refute it at one input. -/
def stabHellyWrong : ChangeSpec := { name := "stabHelly", fn := fun _ => fun
  | [d1, d2] => { results := [.lit (.bool false)], args := [d1, d2] }
  | _ => none }
def StabHellyWrongFalsely : Prop := stabHellyRow.holds Try.pinned (OpenSpec.ofChange stabHellyWrong)

/-- 'damaskkeep.StabRooms': WHATEVER THE INPUT: true; the input reads as it did. -/
def stabRoomsSpec : ChangeSpec := { name := "stabRooms", fn := fun _ => fun
  | [d] => { results := [.lit (.bool true)], args := [d] }
  | _ => none }
def stabRoomsRow : OpenClaim := { program := "ytlmdlholmlbcbaa", sum := "ae7332bd90b382014eaf24b756f14edaa14da7ee9c03dec913e2795bfa5c99c8", func := "damask/damaskkeep.StabRooms", spec := "stabRooms", unfollowed := true, recurses := true, apart := false }
def StabRoomsSaid : Prop := stabRoomsRow.holds Try.pinned (OpenSpec.ofChange stabRoomsSpec)

/-- ITS FALSE NEIGHBOUR: 'it returns false'. Refute it at one input. -/
def stabRoomsWrong : ChangeSpec := { name := "stabRooms", fn := fun _ => fun
  | [d] => { results := [.lit (.bool false)], args := [d] }
  | _ => none }
def StabRoomsWrongFalsely : Prop := stabRoomsRow.holds Try.pinned (OpenSpec.ofChange stabRoomsWrong)

/-- 'damaskkeep.HullMiddle': WHATEVER THE INPUT: true; the input reads as it did. -/
def hullMiddleSpec : ChangeSpec := { name := "hullMiddle", fn := fun _ => fun
  | [d1, d2, d3, d4, d5] => { results := [.lit (.bool true)], args := [d1, d2, d3, d4, d5] }
  | _ => none }
def hullMiddleRow : OpenClaim := { program := "ytlmdlholmlbcbaa", sum := "ae7332bd90b382014eaf24b756f14edaa14da7ee9c03dec913e2795bfa5c99c8", func := "damask/damaskkeep.HullMiddle", spec := "hullMiddle", unfollowed := true, recurses := true, apart := false }
def HullMiddleSaid : Prop := hullMiddleRow.holds Try.pinned (OpenSpec.ofChange hullMiddleSpec)

/-- ITS FALSE NEIGHBOUR: 'it returns false'. Refute it at one input. -/
def hullMiddleWrong : ChangeSpec := { name := "hullMiddle", fn := fun _ => fun
  | [d1, d2, d3, d4, d5] => { results := [.lit (.bool false)], args := [d1, d2, d3, d4, d5] }
  | _ => none }
def HullMiddleWrongFalsely : Prop := hullMiddleRow.holds Try.pinned (OpenSpec.ofChange hullMiddleWrong)

/-- 'damaskkeep.HullPick': WHATEVER THE INPUT: true; the input reads as it did. -/
def hullPickSpec : ChangeSpec := { name := "hullPick", fn := fun _ => fun
  | [d] => { results := [.lit (.bool true)], args := [d] }
  | _ => none }
def hullPickRow : OpenClaim := { program := "ytlmdlholmlbcbaa", sum := "ae7332bd90b382014eaf24b756f14edaa14da7ee9c03dec913e2795bfa5c99c8", func := "damask/damaskkeep.HullPick", spec := "hullPick", unfollowed := true, recurses := true, apart := false }
def HullPickSaid : Prop := hullPickRow.holds Try.pinned (OpenSpec.ofChange hullPickSpec)

/-- ITS FALSE NEIGHBOUR: 'it returns false'. Refute it at one input. -/
def hullPickWrong : ChangeSpec := { name := "hullPick", fn := fun _ => fun
  | [d] => { results := [.lit (.bool false)], args := [d] }
  | _ => none }
def HullPickWrongFalsely : Prop := hullPickRow.holds Try.pinned (OpenSpec.ofChange hullPickWrong)

/-- 'damaskkeep.NearOrder': WHATEVER THE INPUT: true; the input reads as it did. -/
def nearOrderSpec : ChangeSpec := { name := "nearOrder", fn := fun _ => fun
  | [d1, d2, d3, d4] => { results := [.lit (.bool true)], args := [d1, d2, d3, d4] }
  | _ => none }
def nearOrderRow : OpenClaim := { program := "ytlmdlholmlbcbaa", sum := "ae7332bd90b382014eaf24b756f14edaa14da7ee9c03dec913e2795bfa5c99c8", func := "damask/damaskkeep.NearOrder", spec := "nearOrder", unfollowed := true, recurses := true, apart := false }
def NearOrderSaid : Prop := nearOrderRow.holds Try.pinned (OpenSpec.ofChange nearOrderSpec)

/-- ITS FALSE NEIGHBOUR: 'it returns false'. Refute it at one input. -/
def nearOrderWrong : ChangeSpec := { name := "nearOrder", fn := fun _ => fun
  | [d1, d2, d3, d4] => { results := [.lit (.bool false)], args := [d1, d2, d3, d4] }
  | _ => none }
def NearOrderWrongFalsely : Prop := nearOrderRow.holds Try.pinned (OpenSpec.ofChange nearOrderWrong)

/-- 'damaskkeep.ClosestPair': WHATEVER THE INPUT: true; the input reads as it did. -/
def closestPairSpec : ChangeSpec := { name := "closestPair", fn := fun _ => fun
  | [d] => { results := [.lit (.bool true)], args := [d] }
  | _ => none }
def closestPairRow : OpenClaim := { program := "ytlmdlholmlbcbaa", sum := "ae7332bd90b382014eaf24b756f14edaa14da7ee9c03dec913e2795bfa5c99c8", func := "damask/damaskkeep.ClosestPair", spec := "closestPair", unfollowed := true, recurses := true, apart := false }
def ClosestPairSaid : Prop := closestPairRow.holds Try.pinned (OpenSpec.ofChange closestPairSpec)

/-- ITS FALSE NEIGHBOUR: 'it returns false'. Refute it at one input. -/
def closestPairWrong : ChangeSpec := { name := "closestPair", fn := fun _ => fun
  | [d] => { results := [.lit (.bool false)], args := [d] }
  | _ => none }
def ClosestPairWrongFalsely : Prop := closestPairRow.holds Try.pinned (OpenSpec.ofChange closestPairWrong)

/-- 'damaskkeep.NearMoved': WHATEVER THE INPUT: true; the input reads as it did. -/
def nearMovedSpec : ChangeSpec := { name := "nearMoved", fn := fun _ => fun
  | [d1, d2, d3, d4, d5] => { results := [.lit (.bool true)], args := [d1, d2, d3, d4, d5] }
  | _ => none }
def nearMovedRow : OpenClaim := { program := "ytlmdlholmlbcbaa", sum := "ae7332bd90b382014eaf24b756f14edaa14da7ee9c03dec913e2795bfa5c99c8", func := "damask/damaskkeep.NearMoved", spec := "nearMoved", unfollowed := true, recurses := true, apart := false }
def NearMovedSaid : Prop := nearMovedRow.holds Try.pinned (OpenSpec.ofChange nearMovedSpec)

/-- ITS FALSE NEIGHBOUR: 'it returns false'. Refute it at one input. -/
def nearMovedWrong : ChangeSpec := { name := "nearMoved", fn := fun _ => fun
  | [d1, d2, d3, d4, d5] => { results := [.lit (.bool false)], args := [d1, d2, d3, d4, d5] }
  | _ => none }
def NearMovedWrongFalsely : Prop := nearMovedRow.holds Try.pinned (OpenSpec.ofChange nearMovedWrong)

/-- 'damaskkeep.KleeThree': WHATEVER THE INPUT: true; the input reads as it did. -/
def kleeThreeSpec : ChangeSpec := { name := "kleeThree", fn := fun _ => fun
  | [d1, d2, d3] => { results := [.lit (.bool true)], args := [d1, d2, d3] }
  | _ => none }
def kleeThreeRow : OpenClaim := { program := "ytlmdlholmlbcbaa", sum := "ae7332bd90b382014eaf24b756f14edaa14da7ee9c03dec913e2795bfa5c99c8", func := "damask/damaskkeep.KleeThree", spec := "kleeThree", unfollowed := true, recurses := true, apart := false }
def KleeThreeSaid : Prop := kleeThreeRow.holds Try.pinned (OpenSpec.ofChange kleeThreeSpec)

/-- ITS FALSE NEIGHBOUR: 'it returns false'. Refute it at one input. -/
def kleeThreeWrong : ChangeSpec := { name := "kleeThree", fn := fun _ => fun
  | [d1, d2, d3] => { results := [.lit (.bool false)], args := [d1, d2, d3] }
  | _ => none }
def KleeThreeWrongFalsely : Prop := kleeThreeRow.holds Try.pinned (OpenSpec.ofChange kleeThreeWrong)

/-- 'damaskkeep.KleeCounted': WHATEVER THE INPUT: true; the input reads as it did. -/
def kleeCountedSpec : ChangeSpec := { name := "kleeCounted", fn := fun _ => fun
  | [d] => { results := [.lit (.bool true)], args := [d] }
  | _ => none }
def kleeCountedRow : OpenClaim := { program := "ytlmdlholmlbcbaa", sum := "ae7332bd90b382014eaf24b756f14edaa14da7ee9c03dec913e2795bfa5c99c8", func := "damask/damaskkeep.KleeCounted", spec := "kleeCounted", unfollowed := true, recurses := true, apart := false }
def KleeCountedSaid : Prop := kleeCountedRow.holds Try.pinned (OpenSpec.ofChange kleeCountedSpec)

/-- ITS FALSE NEIGHBOUR: 'it returns false'. Refute it at one input. -/
def kleeCountedWrong : ChangeSpec := { name := "kleeCounted", fn := fun _ => fun
  | [d] => { results := [.lit (.bool false)], args := [d] }
  | _ => none }
def KleeCountedWrongFalsely : Prop := kleeCountedRow.holds Try.pinned (OpenSpec.ofChange kleeCountedWrong)

/-- 'damaskkeep.KleeHelly': WHATEVER THE INPUT: true; the input reads as it did. -/
def kleeHellySpec : ChangeSpec := { name := "kleeHelly", fn := fun _ => fun
  | [d] => { results := [.lit (.bool true)], args := [d] }
  | _ => none }
def kleeHellyRow : OpenClaim := { program := "ytlmdlholmlbcbaa", sum := "ae7332bd90b382014eaf24b756f14edaa14da7ee9c03dec913e2795bfa5c99c8", func := "damask/damaskkeep.KleeHelly", spec := "kleeHelly", unfollowed := true, recurses := true, apart := false }
def KleeHellySaid : Prop := kleeHellyRow.holds Try.pinned (OpenSpec.ofChange kleeHellySpec)

/-- ITS FALSE NEIGHBOUR: 'it returns false'. Refute it at one input. -/
def kleeHellyWrong : ChangeSpec := { name := "kleeHelly", fn := fun _ => fun
  | [d] => { results := [.lit (.bool false)], args := [d] }
  | _ => none }
def KleeHellyWrongFalsely : Prop := kleeHellyRow.holds Try.pinned (OpenSpec.ofChange kleeHellyWrong)

/-- 'damaskkeep.GridAll': WHATEVER THE INPUT: true; the input reads as it did. -/
def gridAllSpec : ChangeSpec := { name := "gridAll", fn := fun _ => fun
  | [d1, d2, d3, d4, d5, d6] => { results := [.lit (.bool true)], args := [d1, d2, d3, d4, d5, d6] }
  | _ => none }
def gridAllRow : OpenClaim := { program := "ytlmdlholmlbcbaa", sum := "ae7332bd90b382014eaf24b756f14edaa14da7ee9c03dec913e2795bfa5c99c8", func := "damask/damaskkeep.GridAll", spec := "gridAll", unfollowed := true, recurses := true, apart := false }
def GridAllSaid : Prop := gridAllRow.holds Try.pinned (OpenSpec.ofChange gridAllSpec)

/-- ITS FALSE NEIGHBOUR: 'it returns false'. Refute it at one input. -/
def gridAllWrong : ChangeSpec := { name := "gridAll", fn := fun _ => fun
  | [d1, d2, d3, d4, d5, d6] => { results := [.lit (.bool false)], args := [d1, d2, d3, d4, d5, d6] }
  | _ => none }
def GridAllWrongFalsely : Prop := gridAllRow.holds Try.pinned (OpenSpec.ofChange gridAllWrong)

/- THE SECOND FORM. 'bulk': how many values and letters a reading holds, each counted each time it is reached (what is shared counts as often as it is met; a slice's spare places count too). A statement '..UptoSaid' is the law's where the arguments, and the package variables that the reading takes, are together of bulk at most 1048576: NARROWER than '..Said'. Prove '..Said' where nothing that the law and all that it calls make is longer than what came in: it says more and counts as full. Else prove '..UptoSaid'. A law counts once. -/
mutual
def uptoBulk {H : Type} : DataW H → Nat
  | .lit (.string bytes) => bytes.length + 1
  | .lit _ => 1
  | .nil => 1
  | .ptr d => uptoBulk d + 1
  | .slice elems spare => uptoBulkAll elems + uptoBulkAll spare + 1
  | .agg parts => uptoBulkAll parts + 1
  | .iface _ d => uptoBulk d + 1
  | .map entries => uptoBulkEntries entries + 1
  | .held _ => 1
def uptoBulkAll {H : Type} : List (DataW H) → Nat
  | [] => 0
  | d :: r => uptoBulk d + uptoBulkAll r
def uptoBulkEntries {H : Type} : List (Lit × DataW H) → Nat
  | [] => 0
  | x :: r => uptoBulkEntry x + uptoBulkEntries r
def uptoBulkEntry {H : Type} : Lit × DataW H → Nat
  | (.string bytes, d) => bytes.length + uptoBulk d + 1
  | (_, d) => uptoBulk d + 1
 end
def uptoSmall : (H : Type) → List (DataW H) → Bool := fun _ ds => decide (uptoBulkAll ds ≤ 1048576)
def OpenSpec.upto (s : _root_.Go.ChangeSpec) : _root_.Go.OpenSpec := { _root_.Go.OpenSpec.ofChange s with cond := some uptoSmall }

/-- 'damaskkeep.StabDual', WHERE WHAT IT READS IS OF BULK AT MOST 1048576: true; the input reads as it did. -/
def stabDualUptoRow : OpenClaim := { program := "ytlmdlholmlbcbaa", sum := "ae7332bd90b382014eaf24b756f14edaa14da7ee9c03dec913e2795bfa5c99c8", func := "damask/damaskkeep.StabDual", spec := "stabDual", unfollowed := true, recurses := true, apart := false, narrowed := true }
def StabDualUptoSaid : Prop := stabDualUptoRow.holds Try.pinned (OpenSpec.upto stabDualSpec)

/-- 'damaskkeep.StabHelly', WHERE WHAT IT READS IS OF BULK AT MOST 1048576: true; the input reads as it did. -/
def stabHellyUptoRow : OpenClaim := { program := "ytlmdlholmlbcbaa", sum := "ae7332bd90b382014eaf24b756f14edaa14da7ee9c03dec913e2795bfa5c99c8", func := "damask/damaskkeep.StabHelly", spec := "stabHelly", unfollowed := true, recurses := true, apart := false, narrowed := true }
def StabHellyUptoSaid : Prop := stabHellyUptoRow.holds Try.pinned (OpenSpec.upto stabHellySpec)

/-- 'damaskkeep.StabRooms', WHERE WHAT IT READS IS OF BULK AT MOST 1048576: true; the input reads as it did. -/
def stabRoomsUptoRow : OpenClaim := { program := "ytlmdlholmlbcbaa", sum := "ae7332bd90b382014eaf24b756f14edaa14da7ee9c03dec913e2795bfa5c99c8", func := "damask/damaskkeep.StabRooms", spec := "stabRooms", unfollowed := true, recurses := true, apart := false, narrowed := true }
def StabRoomsUptoSaid : Prop := stabRoomsUptoRow.holds Try.pinned (OpenSpec.upto stabRoomsSpec)

/-- 'damaskkeep.HullMiddle', WHERE WHAT IT READS IS OF BULK AT MOST 1048576: true; the input reads as it did. -/
def hullMiddleUptoRow : OpenClaim := { program := "ytlmdlholmlbcbaa", sum := "ae7332bd90b382014eaf24b756f14edaa14da7ee9c03dec913e2795bfa5c99c8", func := "damask/damaskkeep.HullMiddle", spec := "hullMiddle", unfollowed := true, recurses := true, apart := false, narrowed := true }
def HullMiddleUptoSaid : Prop := hullMiddleUptoRow.holds Try.pinned (OpenSpec.upto hullMiddleSpec)

/-- 'damaskkeep.HullPick', WHERE WHAT IT READS IS OF BULK AT MOST 1048576: true; the input reads as it did. -/
def hullPickUptoRow : OpenClaim := { program := "ytlmdlholmlbcbaa", sum := "ae7332bd90b382014eaf24b756f14edaa14da7ee9c03dec913e2795bfa5c99c8", func := "damask/damaskkeep.HullPick", spec := "hullPick", unfollowed := true, recurses := true, apart := false, narrowed := true }
def HullPickUptoSaid : Prop := hullPickUptoRow.holds Try.pinned (OpenSpec.upto hullPickSpec)

/-- 'damaskkeep.NearOrder', WHERE WHAT IT READS IS OF BULK AT MOST 1048576: true; the input reads as it did. -/
def nearOrderUptoRow : OpenClaim := { program := "ytlmdlholmlbcbaa", sum := "ae7332bd90b382014eaf24b756f14edaa14da7ee9c03dec913e2795bfa5c99c8", func := "damask/damaskkeep.NearOrder", spec := "nearOrder", unfollowed := true, recurses := true, apart := false, narrowed := true }
def NearOrderUptoSaid : Prop := nearOrderUptoRow.holds Try.pinned (OpenSpec.upto nearOrderSpec)

/-- 'damaskkeep.ClosestPair', WHERE WHAT IT READS IS OF BULK AT MOST 1048576: true; the input reads as it did. -/
def closestPairUptoRow : OpenClaim := { program := "ytlmdlholmlbcbaa", sum := "ae7332bd90b382014eaf24b756f14edaa14da7ee9c03dec913e2795bfa5c99c8", func := "damask/damaskkeep.ClosestPair", spec := "closestPair", unfollowed := true, recurses := true, apart := false, narrowed := true }
def ClosestPairUptoSaid : Prop := closestPairUptoRow.holds Try.pinned (OpenSpec.upto closestPairSpec)

/-- 'damaskkeep.NearMoved', WHERE WHAT IT READS IS OF BULK AT MOST 1048576: true; the input reads as it did. -/
def nearMovedUptoRow : OpenClaim := { program := "ytlmdlholmlbcbaa", sum := "ae7332bd90b382014eaf24b756f14edaa14da7ee9c03dec913e2795bfa5c99c8", func := "damask/damaskkeep.NearMoved", spec := "nearMoved", unfollowed := true, recurses := true, apart := false, narrowed := true }
def NearMovedUptoSaid : Prop := nearMovedUptoRow.holds Try.pinned (OpenSpec.upto nearMovedSpec)

/-- 'damaskkeep.KleeThree', WHERE WHAT IT READS IS OF BULK AT MOST 1048576: true; the input reads as it did. -/
def kleeThreeUptoRow : OpenClaim := { program := "ytlmdlholmlbcbaa", sum := "ae7332bd90b382014eaf24b756f14edaa14da7ee9c03dec913e2795bfa5c99c8", func := "damask/damaskkeep.KleeThree", spec := "kleeThree", unfollowed := true, recurses := true, apart := false, narrowed := true }
def KleeThreeUptoSaid : Prop := kleeThreeUptoRow.holds Try.pinned (OpenSpec.upto kleeThreeSpec)

/-- 'damaskkeep.KleeCounted', WHERE WHAT IT READS IS OF BULK AT MOST 1048576: true; the input reads as it did. -/
def kleeCountedUptoRow : OpenClaim := { program := "ytlmdlholmlbcbaa", sum := "ae7332bd90b382014eaf24b756f14edaa14da7ee9c03dec913e2795bfa5c99c8", func := "damask/damaskkeep.KleeCounted", spec := "kleeCounted", unfollowed := true, recurses := true, apart := false, narrowed := true }
def KleeCountedUptoSaid : Prop := kleeCountedUptoRow.holds Try.pinned (OpenSpec.upto kleeCountedSpec)

/-- 'damaskkeep.KleeHelly', WHERE WHAT IT READS IS OF BULK AT MOST 1048576: true; the input reads as it did. -/
def kleeHellyUptoRow : OpenClaim := { program := "ytlmdlholmlbcbaa", sum := "ae7332bd90b382014eaf24b756f14edaa14da7ee9c03dec913e2795bfa5c99c8", func := "damask/damaskkeep.KleeHelly", spec := "kleeHelly", unfollowed := true, recurses := true, apart := false, narrowed := true }
def KleeHellyUptoSaid : Prop := kleeHellyUptoRow.holds Try.pinned (OpenSpec.upto kleeHellySpec)

/-- 'damaskkeep.GridAll', WHERE WHAT IT READS IS OF BULK AT MOST 1048576: true; the input reads as it did. -/
def gridAllUptoRow : OpenClaim := { program := "ytlmdlholmlbcbaa", sum := "ae7332bd90b382014eaf24b756f14edaa14da7ee9c03dec913e2795bfa5c99c8", func := "damask/damaskkeep.GridAll", spec := "gridAll", unfollowed := true, recurses := true, apart := false, narrowed := true }
def GridAllUptoSaid : Prop := gridAllUptoRow.holds Try.pinned (OpenSpec.upto gridAllSpec)

end Rows
end Go.Proofs.Ytlmdlholmlbcbaa

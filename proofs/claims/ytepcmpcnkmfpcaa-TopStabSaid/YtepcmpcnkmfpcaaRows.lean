/-
  No cell of these rows narrows 'for every input' (looked for: loops, veiled, ifaces, maps, wideKeys, modest, calm, conditions, laid).
  DERIVED. THE GIVEN ROWS OF THIS SEAT. 9 by the template 'for every input the law returns true; each argument reads behind the call as it read before'; 0 by the template 'total and deterministic' (their statements: YtepcmpcnkmfpcaaTotals.lean).
  GIVEN WITH THE SEED: the statements are not yours to turn. If you find one false, say at which input.
  Laid BY PROGRAM, IN A SANDBOX (cutbox-rows.mjs): the forced cells as the released guide's own fill.sh prints them over the translation 246614f173c883be… (all of the seat's roots in one cut). By AI agents, Wed Nov 11 2026. No macro, syntax, notation, axiom, sorry.
-/
import Derived.Test.YtepcmpcnkmfpcaaChecked
import GoSem.Claim
import GoSem.ClaimJoined
import GoSem.ClaimMapViews
import Derived.JoinedTies
import Derived.KernelRfl
namespace Go.Proofs.Ytepcmpcnkmfpcaa
/- THE CELL 'sum', in the pinned program and in every row, IS THE sha256 OF THE DUMP (.gsa) THAT YtepcmpcnkmfpcaaProg.lean LOADS. Nothing in Lean hashes anything: it is a label: what it is worth is what the hold of that sum in a sandbox is worth. -/
noncomputable def Try.pinned : Pinned := { name := "ytepcmpcnkmfpcaa", sum := "246614f173c883bece1346035616f6624cb98069bfb2bcd2b6199527dde8967e", checked := Try.checked }
namespace Rows
def none {H : Type} : Left H := { results := [], args := [] }

/-- 'damaskkeep.GridSplit': WHATEVER THE INPUT: true; the input reads as it did. -/
def gridSplitSpec : ChangeSpec := { name := "gridSplit", fn := fun _ => fun
  | [d1, d2, d3, d4, d5, d6] => { results := [.lit (.bool true)], args := [d1, d2, d3, d4, d5, d6] }
  | _ => none }
def gridSplitRow : OpenClaim := { program := "ytepcmpcnkmfpcaa", sum := "246614f173c883bece1346035616f6624cb98069bfb2bcd2b6199527dde8967e", func := "damask/damaskkeep.GridSplit", spec := "gridSplit", unfollowed := true, recurses := true, apart := false }
def GridSplitSaid : Prop := gridSplitRow.holds Try.pinned (OpenSpec.ofChange gridSplitSpec)

/-- ITS FALSE NEIGHBOUR: 'it returns false'. Refute it at one input. -/
def gridSplitWrong : ChangeSpec := { name := "gridSplit", fn := fun _ => fun
  | [d1, d2, d3, d4, d5, d6] => { results := [.lit (.bool false)], args := [d1, d2, d3, d4, d5, d6] }
  | _ => none }
def GridSplitWrongFalsely : Prop := gridSplitRow.holds Try.pinned (OpenSpec.ofChange gridSplitWrong)

/-- 'damaskkeep.GridTurned': WHATEVER THE INPUT: true; the input reads as it did. -/
def gridTurnedSpec : ChangeSpec := { name := "gridTurned", fn := fun _ => fun
  | [d1, d2, d3, d4, d5, d6] => { results := [.lit (.bool true)], args := [d1, d2, d3, d4, d5, d6] }
  | _ => none }
def gridTurnedRow : OpenClaim := { program := "ytepcmpcnkmfpcaa", sum := "246614f173c883bece1346035616f6624cb98069bfb2bcd2b6199527dde8967e", func := "damask/damaskkeep.GridTurned", spec := "gridTurned", unfollowed := true, recurses := true, apart := false }
def GridTurnedSaid : Prop := gridTurnedRow.holds Try.pinned (OpenSpec.ofChange gridTurnedSpec)

/-- ITS FALSE NEIGHBOUR: 'it returns false'. Refute it at one input. -/
def gridTurnedWrong : ChangeSpec := { name := "gridTurned", fn := fun _ => fun
  | [d1, d2, d3, d4, d5, d6] => { results := [.lit (.bool false)], args := [d1, d2, d3, d4, d5, d6] }
  | _ => none }
def GridTurnedWrongFalsely : Prop := gridTurnedRow.holds Try.pinned (OpenSpec.ofChange gridTurnedWrong)

/-- 'damaskkeep.GridAll': WHATEVER THE INPUT: true; the input reads as it did. -/
def gridAllSpec : ChangeSpec := { name := "gridAll", fn := fun _ => fun
  | [d1, d2, d3, d4, d5, d6] => { results := [.lit (.bool true)], args := [d1, d2, d3, d4, d5, d6] }
  | _ => none }
def gridAllRow : OpenClaim := { program := "ytepcmpcnkmfpcaa", sum := "246614f173c883bece1346035616f6624cb98069bfb2bcd2b6199527dde8967e", func := "damask/damaskkeep.GridAll", spec := "gridAll", unfollowed := true, recurses := true, apart := false }
def GridAllSaid : Prop := gridAllRow.holds Try.pinned (OpenSpec.ofChange gridAllSpec)

/-- ITS FALSE NEIGHBOUR: 'it returns false'. Refute it at one input. -/
def gridAllWrong : ChangeSpec := { name := "gridAll", fn := fun _ => fun
  | [d1, d2, d3, d4, d5, d6] => { results := [.lit (.bool false)], args := [d1, d2, d3, d4, d5, d6] }
  | _ => none }
def GridAllWrongFalsely : Prop := gridAllRow.holds Try.pinned (OpenSpec.ofChange gridAllWrong)

/-- 'damaskkeep.SkyUnder': WHATEVER THE INPUT: true; the input reads as it did. -/
def skyUnderSpec : ChangeSpec := { name := "skyUnder", fn := fun _ => fun
  | [d1, d2, d3] => { results := [.lit (.bool true)], args := [d1, d2, d3] }
  | _ => none }
def skyUnderRow : OpenClaim := { program := "ytepcmpcnkmfpcaa", sum := "246614f173c883bece1346035616f6624cb98069bfb2bcd2b6199527dde8967e", func := "damask/damaskkeep.SkyUnder", spec := "skyUnder", unfollowed := true, recurses := true, apart := false }
def SkyUnderSaid : Prop := skyUnderRow.holds Try.pinned (OpenSpec.ofChange skyUnderSpec)

/-- ITS FALSE NEIGHBOUR: 'it returns false'. Refute it at one input. -/
def skyUnderWrong : ChangeSpec := { name := "skyUnder", fn := fun _ => fun
  | [d1, d2, d3] => { results := [.lit (.bool false)], args := [d1, d2, d3] }
  | _ => none }
def SkyUnderWrongFalsely : Prop := skyUnderRow.holds Try.pinned (OpenSpec.ofChange skyUnderWrong)

/-- 'damasktop.TopStab': WHATEVER THE INPUT: true; the input reads as it did. -/
def topStabSpec : ChangeSpec := { name := "topStab", fn := fun _ => fun
  | [d1, d2] => { results := [.lit (.bool true)], args := [d1, d2] }
  | _ => none }
def topStabRow : OpenClaim := { program := "ytepcmpcnkmfpcaa", sum := "246614f173c883bece1346035616f6624cb98069bfb2bcd2b6199527dde8967e", func := "damask/damasktop.TopStab", spec := "topStab", unfollowed := true, recurses := true, apart := false }
def TopStabSaid : Prop := topStabRow.holds Try.pinned (OpenSpec.ofChange topStabSpec)

/-- ITS FALSE NEIGHBOUR: 'it returns false'. Refute it at one input. -/
def topStabWrong : ChangeSpec := { name := "topStab", fn := fun _ => fun
  | [d1, d2] => { results := [.lit (.bool false)], args := [d1, d2] }
  | _ => none }
def TopStabWrongFalsely : Prop := topStabRow.holds Try.pinned (OpenSpec.ofChange topStabWrong)

/-- 'damasktop.TopSwaps': WHATEVER THE INPUT: true; the input reads as it did. -/
def topSwapsSpec : ChangeSpec := { name := "topSwaps", fn := fun _ => fun
  | [d1, d2] => { results := [.lit (.bool true)], args := [d1, d2] }
  | _ => none }
def topSwapsRow : OpenClaim := { program := "ytepcmpcnkmfpcaa", sum := "246614f173c883bece1346035616f6624cb98069bfb2bcd2b6199527dde8967e", func := "damask/damasktop.TopSwaps", spec := "topSwaps", unfollowed := true, recurses := true, apart := false }
def TopSwapsSaid : Prop := topSwapsRow.holds Try.pinned (OpenSpec.ofChange topSwapsSpec)

/-- ITS FALSE NEIGHBOUR: 'it returns false'. Refute it at one input. -/
def topSwapsWrong : ChangeSpec := { name := "topSwaps", fn := fun _ => fun
  | [d1, d2] => { results := [.lit (.bool false)], args := [d1, d2] }
  | _ => none }
def TopSwapsWrongFalsely : Prop := topSwapsRow.holds Try.pinned (OpenSpec.ofChange topSwapsWrong)

/-- 'damaskkeep.NearOrder': WHATEVER THE INPUT: true; the input reads as it did. -/
def nearOrderSpec : ChangeSpec := { name := "nearOrder", fn := fun _ => fun
  | [d1, d2, d3, d4] => { results := [.lit (.bool true)], args := [d1, d2, d3, d4] }
  | _ => none }
def nearOrderRow : OpenClaim := { program := "ytepcmpcnkmfpcaa", sum := "246614f173c883bece1346035616f6624cb98069bfb2bcd2b6199527dde8967e", func := "damask/damaskkeep.NearOrder", spec := "nearOrder", unfollowed := true, recurses := true, apart := false }
def NearOrderSaid : Prop := nearOrderRow.holds Try.pinned (OpenSpec.ofChange nearOrderSpec)

/-- ITS FALSE NEIGHBOUR: 'it returns false'. Refute it at one input. -/
def nearOrderWrong : ChangeSpec := { name := "nearOrder", fn := fun _ => fun
  | [d1, d2, d3, d4] => { results := [.lit (.bool false)], args := [d1, d2, d3, d4] }
  | _ => none }
def NearOrderWrongFalsely : Prop := nearOrderRow.holds Try.pinned (OpenSpec.ofChange nearOrderWrong)

/-- 'damaskkeep.ClosestPair': WHATEVER THE INPUT: true; the input reads as it did. -/
def closestPairSpec : ChangeSpec := { name := "closestPair", fn := fun _ => fun
  | [d] => { results := [.lit (.bool true)], args := [d] }
  | _ => none }
def closestPairRow : OpenClaim := { program := "ytepcmpcnkmfpcaa", sum := "246614f173c883bece1346035616f6624cb98069bfb2bcd2b6199527dde8967e", func := "damask/damaskkeep.ClosestPair", spec := "closestPair", unfollowed := true, recurses := true, apart := false }
def ClosestPairSaid : Prop := closestPairRow.holds Try.pinned (OpenSpec.ofChange closestPairSpec)

/-- ITS FALSE NEIGHBOUR: 'it returns false'. Refute it at one input. -/
def closestPairWrong : ChangeSpec := { name := "closestPair", fn := fun _ => fun
  | [d] => { results := [.lit (.bool false)], args := [d] }
  | _ => none }
def ClosestPairWrongFalsely : Prop := closestPairRow.holds Try.pinned (OpenSpec.ofChange closestPairWrong)

/-- 'damaskkeep.NearMoved': WHATEVER THE INPUT: true; the input reads as it did. -/
def nearMovedSpec : ChangeSpec := { name := "nearMoved", fn := fun _ => fun
  | [d1, d2, d3, d4, d5] => { results := [.lit (.bool true)], args := [d1, d2, d3, d4, d5] }
  | _ => none }
def nearMovedRow : OpenClaim := { program := "ytepcmpcnkmfpcaa", sum := "246614f173c883bece1346035616f6624cb98069bfb2bcd2b6199527dde8967e", func := "damask/damaskkeep.NearMoved", spec := "nearMoved", unfollowed := true, recurses := true, apart := false }
def NearMovedSaid : Prop := nearMovedRow.holds Try.pinned (OpenSpec.ofChange nearMovedSpec)

/-- ITS FALSE NEIGHBOUR: 'it returns false'. Refute it at one input. -/
def nearMovedWrong : ChangeSpec := { name := "nearMoved", fn := fun _ => fun
  | [d1, d2, d3, d4, d5] => { results := [.lit (.bool false)], args := [d1, d2, d3, d4, d5] }
  | _ => none }
def NearMovedWrongFalsely : Prop := nearMovedRow.holds Try.pinned (OpenSpec.ofChange nearMovedWrong)

/- THE SECOND FORM. 'bulk': how many values and letters a reading holds, each counted each time it is reached (what is shared counts as often as it is met; a slice's spare places count too). A statement '..UptoSaid' is the law's where the arguments, and the package variables that the reading takes, are together of bulk at most 1048576: NARROWER than '..Said'. Prove '..Said' where nothing that the law and all that it calls make is longer than what came in: it says more and counts as full. Else prove '..UptoSaid'. A law counts once. -/
mutual
def uptoBulk {H : Type} : DataW H → Nat
  | .lit (.string bytes) => bytes.length + 1
  | .lit _ => 1
  | .nil => 1
  | .ptr d => uptoBulk d + 1
  | .slice elems spare => uptoBulkAll elems + uptoBulkAll spare + 1
  | .agg parts => uptoBulkAll parts + 1
  | .iface _ d => uptoBulk d + 1
  | .map entries => uptoBulkEntries entries + 1
  | .held _ => 1
def uptoBulkAll {H : Type} : List (DataW H) → Nat
  | [] => 0
  | d :: r => uptoBulk d + uptoBulkAll r
def uptoBulkEntries {H : Type} : List (Lit × DataW H) → Nat
  | [] => 0
  | x :: r => uptoBulkEntry x + uptoBulkEntries r
def uptoBulkEntry {H : Type} : Lit × DataW H → Nat
  | (.string bytes, d) => bytes.length + uptoBulk d + 1
  | (_, d) => uptoBulk d + 1
 end
def uptoSmall : (H : Type) → List (DataW H) → Bool := fun _ ds => decide (uptoBulkAll ds ≤ 1048576)
def OpenSpec.upto (s : _root_.Go.ChangeSpec) : _root_.Go.OpenSpec := { _root_.Go.OpenSpec.ofChange s with cond := some uptoSmall }

/-- 'damaskkeep.GridSplit', WHERE WHAT IT READS IS OF BULK AT MOST 1048576: true; the input reads as it did. -/
def gridSplitUptoRow : OpenClaim := { program := "ytepcmpcnkmfpcaa", sum := "246614f173c883bece1346035616f6624cb98069bfb2bcd2b6199527dde8967e", func := "damask/damaskkeep.GridSplit", spec := "gridSplit", unfollowed := true, recurses := true, apart := false, narrowed := true }
def GridSplitUptoSaid : Prop := gridSplitUptoRow.holds Try.pinned (OpenSpec.upto gridSplitSpec)

/-- 'damaskkeep.GridTurned', WHERE WHAT IT READS IS OF BULK AT MOST 1048576: true; the input reads as it did. -/
def gridTurnedUptoRow : OpenClaim := { program := "ytepcmpcnkmfpcaa", sum := "246614f173c883bece1346035616f6624cb98069bfb2bcd2b6199527dde8967e", func := "damask/damaskkeep.GridTurned", spec := "gridTurned", unfollowed := true, recurses := true, apart := false, narrowed := true }
def GridTurnedUptoSaid : Prop := gridTurnedUptoRow.holds Try.pinned (OpenSpec.upto gridTurnedSpec)

/-- 'damaskkeep.GridAll', WHERE WHAT IT READS IS OF BULK AT MOST 1048576: true; the input reads as it did. -/
def gridAllUptoRow : OpenClaim := { program := "ytepcmpcnkmfpcaa", sum := "246614f173c883bece1346035616f6624cb98069bfb2bcd2b6199527dde8967e", func := "damask/damaskkeep.GridAll", spec := "gridAll", unfollowed := true, recurses := true, apart := false, narrowed := true }
def GridAllUptoSaid : Prop := gridAllUptoRow.holds Try.pinned (OpenSpec.upto gridAllSpec)

/-- 'damaskkeep.SkyUnder', WHERE WHAT IT READS IS OF BULK AT MOST 1048576: true; the input reads as it did. -/
def skyUnderUptoRow : OpenClaim := { program := "ytepcmpcnkmfpcaa", sum := "246614f173c883bece1346035616f6624cb98069bfb2bcd2b6199527dde8967e", func := "damask/damaskkeep.SkyUnder", spec := "skyUnder", unfollowed := true, recurses := true, apart := false, narrowed := true }
def SkyUnderUptoSaid : Prop := skyUnderUptoRow.holds Try.pinned (OpenSpec.upto skyUnderSpec)

/-- 'damasktop.TopStab', WHERE WHAT IT READS IS OF BULK AT MOST 1048576: true; the input reads as it did. -/
def topStabUptoRow : OpenClaim := { program := "ytepcmpcnkmfpcaa", sum := "246614f173c883bece1346035616f6624cb98069bfb2bcd2b6199527dde8967e", func := "damask/damasktop.TopStab", spec := "topStab", unfollowed := true, recurses := true, apart := false, narrowed := true }
def TopStabUptoSaid : Prop := topStabUptoRow.holds Try.pinned (OpenSpec.upto topStabSpec)

/-- 'damasktop.TopSwaps', WHERE WHAT IT READS IS OF BULK AT MOST 1048576: true; the input reads as it did. -/
def topSwapsUptoRow : OpenClaim := { program := "ytepcmpcnkmfpcaa", sum := "246614f173c883bece1346035616f6624cb98069bfb2bcd2b6199527dde8967e", func := "damask/damasktop.TopSwaps", spec := "topSwaps", unfollowed := true, recurses := true, apart := false, narrowed := true }
def TopSwapsUptoSaid : Prop := topSwapsUptoRow.holds Try.pinned (OpenSpec.upto topSwapsSpec)

/-- 'damaskkeep.NearOrder', WHERE WHAT IT READS IS OF BULK AT MOST 1048576: true; the input reads as it did. -/
def nearOrderUptoRow : OpenClaim := { program := "ytepcmpcnkmfpcaa", sum := "246614f173c883bece1346035616f6624cb98069bfb2bcd2b6199527dde8967e", func := "damask/damaskkeep.NearOrder", spec := "nearOrder", unfollowed := true, recurses := true, apart := false, narrowed := true }
def NearOrderUptoSaid : Prop := nearOrderUptoRow.holds Try.pinned (OpenSpec.upto nearOrderSpec)

/-- 'damaskkeep.ClosestPair', WHERE WHAT IT READS IS OF BULK AT MOST 1048576: true; the input reads as it did. -/
def closestPairUptoRow : OpenClaim := { program := "ytepcmpcnkmfpcaa", sum := "246614f173c883bece1346035616f6624cb98069bfb2bcd2b6199527dde8967e", func := "damask/damaskkeep.ClosestPair", spec := "closestPair", unfollowed := true, recurses := true, apart := false, narrowed := true }
def ClosestPairUptoSaid : Prop := closestPairUptoRow.holds Try.pinned (OpenSpec.upto closestPairSpec)

/-- 'damaskkeep.NearMoved', WHERE WHAT IT READS IS OF BULK AT MOST 1048576: true; the input reads as it did. -/
def nearMovedUptoRow : OpenClaim := { program := "ytepcmpcnkmfpcaa", sum := "246614f173c883bece1346035616f6624cb98069bfb2bcd2b6199527dde8967e", func := "damask/damaskkeep.NearMoved", spec := "nearMoved", unfollowed := true, recurses := true, apart := false, narrowed := true }
def NearMovedUptoSaid : Prop := nearMovedUptoRow.holds Try.pinned (OpenSpec.upto nearMovedSpec)

end Rows
end Go.Proofs.Ytepcmpcnkmfpcaa

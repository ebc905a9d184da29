/-
  No cell of these rows narrows 'for every input' (looked for: loops, veiled, ifaces, maps, wideKeys, modest, calm, conditions, laid).
  DERIVED. THE GIVEN ROWS OF THIS SEAT. 12 by the template 'for every input the law returns true; each argument reads behind the call as it read before'; 0 by the template 'total and deterministic' (their statements: YtmoicghgdcbflaaTotals.lean).
  GIVEN WITH THE SEED: the statements are not yours to turn. If you find one false, say at which input.
  Laid BY PROGRAM, IN A SANDBOX (cutbox-rows.mjs): the forced cells as the released guide's own fill.sh prints them over the translation 66f3a82f6919a8ee… (all of the seat's roots in one cut). By AI agents, Wed Nov 11 2026. No macro, syntax, notation, axiom, sorry.
-/
import Derived.Test.YtmoicghgdcbflaaChecked
import GoSem.Claim
import GoSem.ClaimJoined
import GoSem.ClaimMapViews
import Derived.JoinedTies
import Derived.KernelRfl
namespace Go.Proofs.Ytmoicghgdcbflaa
/- THE CELL 'sum', in the pinned program and in every row, IS THE sha256 OF THE DUMP (.gsa) THAT YtmoicghgdcbflaaProg.lean LOADS. Nothing in Lean hashes anything: it is a label: what it is worth is what the hold of that sum in a sandbox is worth. -/
noncomputable def Try.pinned : Pinned := { name := "ytmoicghgdcbflaa", sum := "66f3a82f6919a8ee2a326a8dfa11dc9f6bafe083a310c8a07bec6a442d1e32e6", checked := Try.checked }
namespace Rows
def none {H : Type} : Left H := { results := [], args := [] }

/-- 'damaskkeep.SumXor': WHATEVER THE INPUT: true; the input reads as it did. -/
def sumXorSpec : ChangeSpec := { name := "sumXor", fn := fun _ => fun
  | [d1, d2, d3] => { results := [.lit (.bool true)], args := [d1, d2, d3] }
  | _ => none }
def sumXorRow : OpenClaim := { program := "ytmoicghgdcbflaa", sum := "66f3a82f6919a8ee2a326a8dfa11dc9f6bafe083a310c8a07bec6a442d1e32e6", func := "damask/damaskkeep.SumXor", spec := "sumXor", apart := false }
def SumXorSaid : Prop := sumXorRow.holds Try.pinned (OpenSpec.ofChange sumXorSpec)

/-- ITS FALSE NEIGHBOUR: 'it returns false'. Refute it at one input. -/
def sumXorWrong : ChangeSpec := { name := "sumXor", fn := fun _ => fun
  | [d1, d2, d3] => { results := [.lit (.bool false)], args := [d1, d2, d3] }
  | _ => none }
def SumXorWrongFalsely : Prop := sumXorRow.holds Try.pinned (OpenSpec.ofChange sumXorWrong)

/-- 'damaskkeep.MortonTrue': WHATEVER THE INPUT: true; the input reads as it did. -/
def mortonTrueSpec : ChangeSpec := { name := "mortonTrue", fn := fun _ => fun
  | [d1, d2, d3, d4] => { results := [.lit (.bool true)], args := [d1, d2, d3, d4] }
  | _ => none }
def mortonTrueRow : OpenClaim := { program := "ytmoicghgdcbflaa", sum := "66f3a82f6919a8ee2a326a8dfa11dc9f6bafe083a310c8a07bec6a442d1e32e6", func := "damask/damaskkeep.MortonTrue", spec := "mortonTrue", apart := false }
def MortonTrueSaid : Prop := mortonTrueRow.holds Try.pinned (OpenSpec.ofChange mortonTrueSpec)

/-- ITS FALSE NEIGHBOUR: 'it returns false'. Refute it at one input. -/
def mortonTrueWrong : ChangeSpec := { name := "mortonTrue", fn := fun _ => fun
  | [d1, d2, d3, d4] => { results := [.lit (.bool false)], args := [d1, d2, d3, d4] }
  | _ => none }
def MortonTrueWrongFalsely : Prop := mortonTrueRow.holds Try.pinned (OpenSpec.ofChange mortonTrueWrong)

/-- 'damaskkeep.PermRounds': WHATEVER THE INPUT: true; the input reads as it did. -/
def permRoundsSpec : ChangeSpec := { name := "permRounds", fn := fun _ => fun
  | [d1, d2, d3] => { results := [.lit (.bool true)], args := [d1, d2, d3] }
  | _ => none }
def permRoundsRow : OpenClaim := { program := "ytmoicghgdcbflaa", sum := "66f3a82f6919a8ee2a326a8dfa11dc9f6bafe083a310c8a07bec6a442d1e32e6", func := "damask/damaskkeep.PermRounds", spec := "permRounds", apart := false }
def PermRoundsSaid : Prop := permRoundsRow.holds Try.pinned (OpenSpec.ofChange permRoundsSpec)

/-- ITS FALSE NEIGHBOUR: 'it returns false'. Refute it at one input. -/
def permRoundsWrong : ChangeSpec := { name := "permRounds", fn := fun _ => fun
  | [d1, d2, d3] => { results := [.lit (.bool false)], args := [d1, d2, d3] }
  | _ => none }
def PermRoundsWrongFalsely : Prop := permRoundsRow.holds Try.pinned (OpenSpec.ofChange permRoundsWrong)

/-- 'damaskkeep.RankSplit': WHATEVER THE INPUT: true; the input reads as it did. -/
def rankSplitSpec : ChangeSpec := { name := "rankSplit", fn := fun _ => fun
  | [d1, d2, d3] => { results := [.lit (.bool true)], args := [d1, d2, d3] }
  | _ => none }
def rankSplitRow : OpenClaim := { program := "ytmoicghgdcbflaa", sum := "66f3a82f6919a8ee2a326a8dfa11dc9f6bafe083a310c8a07bec6a442d1e32e6", func := "damask/damaskkeep.RankSplit", spec := "rankSplit", apart := false }
def RankSplitSaid : Prop := rankSplitRow.holds Try.pinned (OpenSpec.ofChange rankSplitSpec)

/-- ITS FALSE NEIGHBOUR: 'it returns false'. Refute it at one input. -/
def rankSplitWrong : ChangeSpec := { name := "rankSplit", fn := fun _ => fun
  | [d1, d2, d3] => { results := [.lit (.bool false)], args := [d1, d2, d3] }
  | _ => none }
def RankSplitWrongFalsely : Prop := rankSplitRow.holds Try.pinned (OpenSpec.ofChange rankSplitWrong)

/-- 'damaskkeep.PermGroup': WHATEVER THE INPUT: true; the input reads as it did. -/
def permGroupSpec : ChangeSpec := { name := "permGroup", fn := fun _ => fun
  | [d1, d2, d3, d4] => { results := [.lit (.bool true)], args := [d1, d2, d3, d4] }
  | _ => none }
def permGroupRow : OpenClaim := { program := "ytmoicghgdcbflaa", sum := "66f3a82f6919a8ee2a326a8dfa11dc9f6bafe083a310c8a07bec6a442d1e32e6", func := "damask/damaskkeep.PermGroup", spec := "permGroup", apart := false }
def PermGroupSaid : Prop := permGroupRow.holds Try.pinned (OpenSpec.ofChange permGroupSpec)

/-- ITS FALSE NEIGHBOUR: 'it returns false'. Refute it at one input. -/
def permGroupWrong : ChangeSpec := { name := "permGroup", fn := fun _ => fun
  | [d1, d2, d3, d4] => { results := [.lit (.bool false)], args := [d1, d2, d3, d4] }
  | _ => none }
def PermGroupWrongFalsely : Prop := permGroupRow.holds Try.pinned (OpenSpec.ofChange permGroupWrong)

/-- 'damaskkeep.CoverJust': WHATEVER THE INPUT: true; the input reads as it did. -/
def coverJustSpec : ChangeSpec := { name := "coverJust", fn := fun _ => fun
  | [d1, d2, d3, d4, d5, d6] => { results := [.lit (.bool true)], args := [d1, d2, d3, d4, d5, d6] }
  | _ => none }
def coverJustRow : OpenClaim := { program := "ytmoicghgdcbflaa", sum := "66f3a82f6919a8ee2a326a8dfa11dc9f6bafe083a310c8a07bec6a442d1e32e6", func := "damask/damaskkeep.CoverJust", spec := "coverJust", recurses := true, apart := false }
def CoverJustSaid : Prop := coverJustRow.holds Try.pinned (OpenSpec.ofChange coverJustSpec)

/-- ITS FALSE NEIGHBOUR: 'it returns false'. Refute it at one input. -/
def coverJustWrong : ChangeSpec := { name := "coverJust", fn := fun _ => fun
  | [d1, d2, d3, d4, d5, d6] => { results := [.lit (.bool false)], args := [d1, d2, d3, d4, d5, d6] }
  | _ => none }
def CoverJustWrongFalsely : Prop := coverJustRow.holds Try.pinned (OpenSpec.ofChange coverJustWrong)

/-- 'damaskkeep.MatchTwice': WHATEVER THE INPUT: true; the input reads as it did. -/
def matchTwiceSpec : ChangeSpec := { name := "matchTwice", fn := fun _ => fun
  | [d1, d2] => { results := [.lit (.bool true)], args := [d1, d2] }
  | _ => none }
def matchTwiceRow : OpenClaim := { program := "ytmoicghgdcbflaa", sum := "66f3a82f6919a8ee2a326a8dfa11dc9f6bafe083a310c8a07bec6a442d1e32e6", func := "damask/damaskkeep.MatchTwice", spec := "matchTwice", apart := false }
def MatchTwiceSaid : Prop := matchTwiceRow.holds Try.pinned (OpenSpec.ofChange matchTwiceSpec)

/-- ITS FALSE NEIGHBOUR: 'it returns false'. Refute it at one input. -/
def matchTwiceWrong : ChangeSpec := { name := "matchTwice", fn := fun _ => fun
  | [d1, d2] => { results := [.lit (.bool false)], args := [d1, d2] }
  | _ => none }
def MatchTwiceWrongFalsely : Prop := matchTwiceRow.holds Try.pinned (OpenSpec.ofChange matchTwiceWrong)

/-- 'damaskkeep.EncloseUp': WHATEVER THE INPUT: true; the input reads as it did. -/
def encloseUpSpec : ChangeSpec := { name := "encloseUp", fn := fun _ => fun
  | [d1, d2] => { results := [.lit (.bool true)], args := [d1, d2] }
  | _ => none }
def encloseUpRow : OpenClaim := { program := "ytmoicghgdcbflaa", sum := "66f3a82f6919a8ee2a326a8dfa11dc9f6bafe083a310c8a07bec6a442d1e32e6", func := "damask/damaskkeep.EncloseUp", spec := "encloseUp", apart := false }
def EncloseUpSaid : Prop := encloseUpRow.holds Try.pinned (OpenSpec.ofChange encloseUpSpec)

/-- ITS FALSE NEIGHBOUR: 'it returns false'. Refute it at one input. -/
def encloseUpWrong : ChangeSpec := { name := "encloseUp", fn := fun _ => fun
  | [d1, d2] => { results := [.lit (.bool false)], args := [d1, d2] }
  | _ => none }
def EncloseUpWrongFalsely : Prop := encloseUpRow.holds Try.pinned (OpenSpec.ofChange encloseUpWrong)

/-- 'damaskkeep.TurnTwice': WHATEVER THE INPUT: true; the input reads as it did. -/
def turnTwiceSpec : ChangeSpec := { name := "turnTwice", fn := fun _ => fun
  | [d1, d2] => { results := [.lit (.bool true)], args := [d1, d2] }
  | _ => none }
def turnTwiceRow : OpenClaim := { program := "ytmoicghgdcbflaa", sum := "66f3a82f6919a8ee2a326a8dfa11dc9f6bafe083a310c8a07bec6a442d1e32e6", func := "damask/damaskkeep.TurnTwice", spec := "turnTwice", apart := false }
def TurnTwiceSaid : Prop := turnTwiceRow.holds Try.pinned (OpenSpec.ofChange turnTwiceSpec)

/-- ITS FALSE NEIGHBOUR: 'it returns false'. Refute it at one input. -/
def turnTwiceWrong : ChangeSpec := { name := "turnTwice", fn := fun _ => fun
  | [d1, d2] => { results := [.lit (.bool false)], args := [d1, d2] }
  | _ => none }
def TurnTwiceWrongFalsely : Prop := turnTwiceRow.holds Try.pinned (OpenSpec.ofChange turnTwiceWrong)

/-- 'damaskkeep.SktNever': WHATEVER THE INPUT: true; the input reads as it did. -/
def sktNeverSpec : ChangeSpec := { name := "sktNever", fn := fun _ => fun
  | [d1, d2, d3] => { results := [.lit (.bool true)], args := [d1, d2, d3] }
  | _ => none }
def sktNeverRow : OpenClaim := { program := "ytmoicghgdcbflaa", sum := "66f3a82f6919a8ee2a326a8dfa11dc9f6bafe083a310c8a07bec6a442d1e32e6", func := "damask/damaskkeep.SktNever", spec := "sktNever", unfollowed := true, recurses := true, apart := false }
def SktNeverSaid : Prop := sktNeverRow.holds Try.pinned (OpenSpec.ofChange sktNeverSpec)

/-- ITS FALSE NEIGHBOUR: 'it returns false'. Refute it at one input. -/
def sktNeverWrong : ChangeSpec := { name := "sktNever", fn := fun _ => fun
  | [d1, d2, d3] => { results := [.lit (.bool false)], args := [d1, d2, d3] }
  | _ => none }
def SktNeverWrongFalsely : Prop := sktNeverRow.holds Try.pinned (OpenSpec.ofChange sktNeverWrong)

/-- 'damaskkeep.SelectRank': WHATEVER THE INPUT: true; the input reads as it did. -/
def selectRankSpec : ChangeSpec := { name := "selectRank", fn := fun _ => fun
  | [d1, d2] => { results := [.lit (.bool true)], args := [d1, d2] }
  | _ => none }
def selectRankRow : OpenClaim := { program := "ytmoicghgdcbflaa", sum := "66f3a82f6919a8ee2a326a8dfa11dc9f6bafe083a310c8a07bec6a442d1e32e6", func := "damask/damaskkeep.SelectRank", spec := "selectRank", apart := false }
def SelectRankSaid : Prop := selectRankRow.holds Try.pinned (OpenSpec.ofChange selectRankSpec)

/-- ITS FALSE NEIGHBOUR: 'it returns false'. Refute it at one input. -/
def selectRankWrong : ChangeSpec := { name := "selectRank", fn := fun _ => fun
  | [d1, d2] => { results := [.lit (.bool false)], args := [d1, d2] }
  | _ => none }
def SelectRankWrongFalsely : Prop := selectRankRow.holds Try.pinned (OpenSpec.ofChange selectRankWrong)

/-- 'damaskkeep.PackBack': WHATEVER THE INPUT: true; the input reads as it did. -/
def packBackSpec : ChangeSpec := { name := "packBack", fn := fun _ => fun
  | [d1, d2] => { results := [.lit (.bool true)], args := [d1, d2] }
  | _ => none }
def packBackRow : OpenClaim := { program := "ytmoicghgdcbflaa", sum := "66f3a82f6919a8ee2a326a8dfa11dc9f6bafe083a310c8a07bec6a442d1e32e6", func := "damask/damaskkeep.PackBack", spec := "packBack", apart := false }
def PackBackSaid : Prop := packBackRow.holds Try.pinned (OpenSpec.ofChange packBackSpec)

/-- ITS FALSE NEIGHBOUR: 'it returns false'. Refute it at one input. -/
def packBackWrong : ChangeSpec := { name := "packBack", fn := fun _ => fun
  | [d1, d2] => { results := [.lit (.bool false)], args := [d1, d2] }
  | _ => none }
def PackBackWrongFalsely : Prop := packBackRow.holds Try.pinned (OpenSpec.ofChange packBackWrong)

/- THE SECOND FORM. 'bulk': how many values and letters a reading holds, each counted each time it is reached (what is shared counts as often as it is met; a slice's spare places count too). A statement '..UptoSaid' is the law's where the arguments, and the package variables that the reading takes, are together of bulk at most 1048576: NARROWER than '..Said'. Prove '..Said' where nothing that the law and all that it calls make is longer than what came in: it says more and counts as full. Else prove '..UptoSaid'. A law counts once. -/
mutual
def uptoBulk {H : Type} : DataW H → Nat
  | .lit (.string bytes) => bytes.length + 1
  | .lit _ => 1
  | .nil => 1
  | .ptr d => uptoBulk d + 1
  | .slice elems spare => uptoBulkAll elems + uptoBulkAll spare + 1
  | .agg parts => uptoBulkAll parts + 1
  | .iface _ d => uptoBulk d + 1
  | .map entries => uptoBulkEntries entries + 1
  | .held _ => 1
def uptoBulkAll {H : Type} : List (DataW H) → Nat
  | [] => 0
  | d :: r => uptoBulk d + uptoBulkAll r
def uptoBulkEntries {H : Type} : List (Lit × DataW H) → Nat
  | [] => 0
  | x :: r => uptoBulkEntry x + uptoBulkEntries r
def uptoBulkEntry {H : Type} : Lit × DataW H → Nat
  | (.string bytes, d) => bytes.length + uptoBulk d + 1
  | (_, d) => uptoBulk d + 1
 end
def uptoSmall : (H : Type) → List (DataW H) → Bool := fun _ ds => decide (uptoBulkAll ds ≤ 1048576)
def OpenSpec.upto (s : _root_.Go.ChangeSpec) : _root_.Go.OpenSpec := { _root_.Go.OpenSpec.ofChange s with cond := some uptoSmall }

/-- 'damaskkeep.SumXor', WHERE WHAT IT READS IS OF BULK AT MOST 1048576: true; the input reads as it did. -/
def sumXorUptoRow : OpenClaim := { program := "ytmoicghgdcbflaa", sum := "66f3a82f6919a8ee2a326a8dfa11dc9f6bafe083a310c8a07bec6a442d1e32e6", func := "damask/damaskkeep.SumXor", spec := "sumXor", apart := false, narrowed := true }
def SumXorUptoSaid : Prop := sumXorUptoRow.holds Try.pinned (OpenSpec.upto sumXorSpec)

/-- 'damaskkeep.MortonTrue', WHERE WHAT IT READS IS OF BULK AT MOST 1048576: true; the input reads as it did. -/
def mortonTrueUptoRow : OpenClaim := { program := "ytmoicghgdcbflaa", sum := "66f3a82f6919a8ee2a326a8dfa11dc9f6bafe083a310c8a07bec6a442d1e32e6", func := "damask/damaskkeep.MortonTrue", spec := "mortonTrue", apart := false, narrowed := true }
def MortonTrueUptoSaid : Prop := mortonTrueUptoRow.holds Try.pinned (OpenSpec.upto mortonTrueSpec)

/-- 'damaskkeep.PermRounds', WHERE WHAT IT READS IS OF BULK AT MOST 1048576: true; the input reads as it did. -/
def permRoundsUptoRow : OpenClaim := { program := "ytmoicghgdcbflaa", sum := "66f3a82f6919a8ee2a326a8dfa11dc9f6bafe083a310c8a07bec6a442d1e32e6", func := "damask/damaskkeep.PermRounds", spec := "permRounds", apart := false, narrowed := true }
def PermRoundsUptoSaid : Prop := permRoundsUptoRow.holds Try.pinned (OpenSpec.upto permRoundsSpec)

/-- 'damaskkeep.RankSplit', WHERE WHAT IT READS IS OF BULK AT MOST 1048576: true; the input reads as it did. -/
def rankSplitUptoRow : OpenClaim := { program := "ytmoicghgdcbflaa", sum := "66f3a82f6919a8ee2a326a8dfa11dc9f6bafe083a310c8a07bec6a442d1e32e6", func := "damask/damaskkeep.RankSplit", spec := "rankSplit", apart := false, narrowed := true }
def RankSplitUptoSaid : Prop := rankSplitUptoRow.holds Try.pinned (OpenSpec.upto rankSplitSpec)

/-- 'damaskkeep.PermGroup', WHERE WHAT IT READS IS OF BULK AT MOST 1048576: true; the input reads as it did. -/
def permGroupUptoRow : OpenClaim := { program := "ytmoicghgdcbflaa", sum := "66f3a82f6919a8ee2a326a8dfa11dc9f6bafe083a310c8a07bec6a442d1e32e6", func := "damask/damaskkeep.PermGroup", spec := "permGroup", apart := false, narrowed := true }
def PermGroupUptoSaid : Prop := permGroupUptoRow.holds Try.pinned (OpenSpec.upto permGroupSpec)

/-- 'damaskkeep.CoverJust', WHERE WHAT IT READS IS OF BULK AT MOST 1048576: true; the input reads as it did. -/
def coverJustUptoRow : OpenClaim := { program := "ytmoicghgdcbflaa", sum := "66f3a82f6919a8ee2a326a8dfa11dc9f6bafe083a310c8a07bec6a442d1e32e6", func := "damask/damaskkeep.CoverJust", spec := "coverJust", recurses := true, apart := false, narrowed := true }
def CoverJustUptoSaid : Prop := coverJustUptoRow.holds Try.pinned (OpenSpec.upto coverJustSpec)

/-- 'damaskkeep.MatchTwice', WHERE WHAT IT READS IS OF BULK AT MOST 1048576: true; the input reads as it did. -/
def matchTwiceUptoRow : OpenClaim := { program := "ytmoicghgdcbflaa", sum := "66f3a82f6919a8ee2a326a8dfa11dc9f6bafe083a310c8a07bec6a442d1e32e6", func := "damask/damaskkeep.MatchTwice", spec := "matchTwice", apart := false, narrowed := true }
def MatchTwiceUptoSaid : Prop := matchTwiceUptoRow.holds Try.pinned (OpenSpec.upto matchTwiceSpec)

/-- 'damaskkeep.EncloseUp', WHERE WHAT IT READS IS OF BULK AT MOST 1048576: true; the input reads as it did. -/
def encloseUpUptoRow : OpenClaim := { program := "ytmoicghgdcbflaa", sum := "66f3a82f6919a8ee2a326a8dfa11dc9f6bafe083a310c8a07bec6a442d1e32e6", func := "damask/damaskkeep.EncloseUp", spec := "encloseUp", apart := false, narrowed := true }
def EncloseUpUptoSaid : Prop := encloseUpUptoRow.holds Try.pinned (OpenSpec.upto encloseUpSpec)

/-- 'damaskkeep.TurnTwice', WHERE WHAT IT READS IS OF BULK AT MOST 1048576: true; the input reads as it did. -/
def turnTwiceUptoRow : OpenClaim := { program := "ytmoicghgdcbflaa", sum := "66f3a82f6919a8ee2a326a8dfa11dc9f6bafe083a310c8a07bec6a442d1e32e6", func := "damask/damaskkeep.TurnTwice", spec := "turnTwice", apart := false, narrowed := true }
def TurnTwiceUptoSaid : Prop := turnTwiceUptoRow.holds Try.pinned (OpenSpec.upto turnTwiceSpec)

/-- 'damaskkeep.SktNever', WHERE WHAT IT READS IS OF BULK AT MOST 1048576: true; the input reads as it did. -/
def sktNeverUptoRow : OpenClaim := { program := "ytmoicghgdcbflaa", sum := "66f3a82f6919a8ee2a326a8dfa11dc9f6bafe083a310c8a07bec6a442d1e32e6", func := "damask/damaskkeep.SktNever", spec := "sktNever", unfollowed := true, recurses := true, apart := false, narrowed := true }
def SktNeverUptoSaid : Prop := sktNeverUptoRow.holds Try.pinned (OpenSpec.upto sktNeverSpec)

/-- 'damaskkeep.SelectRank', WHERE WHAT IT READS IS OF BULK AT MOST 1048576: true; the input reads as it did. -/
def selectRankUptoRow : OpenClaim := { program := "ytmoicghgdcbflaa", sum := "66f3a82f6919a8ee2a326a8dfa11dc9f6bafe083a310c8a07bec6a442d1e32e6", func := "damask/damaskkeep.SelectRank", spec := "selectRank", apart := false, narrowed := true }
def SelectRankUptoSaid : Prop := selectRankUptoRow.holds Try.pinned (OpenSpec.upto selectRankSpec)

/-- 'damaskkeep.PackBack', WHERE WHAT IT READS IS OF BULK AT MOST 1048576: true; the input reads as it did. -/
def packBackUptoRow : OpenClaim := { program := "ytmoicghgdcbflaa", sum := "66f3a82f6919a8ee2a326a8dfa11dc9f6bafe083a310c8a07bec6a442d1e32e6", func := "damask/damaskkeep.PackBack", spec := "packBack", apart := false, narrowed := true }
def PackBackUptoSaid : Prop := packBackUptoRow.holds Try.pinned (OpenSpec.upto packBackSpec)

end Rows
end Go.Proofs.Ytmoicghgdcbflaa

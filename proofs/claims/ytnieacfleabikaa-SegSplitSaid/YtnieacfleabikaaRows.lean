/-
  No cell of these rows narrows 'for every input' (looked for: loops, veiled, ifaces, maps, wideKeys, modest, calm, conditions, laid).
  DERIVED. THE GIVEN ROWS OF THIS SEAT. 12 by the template 'for every input the law returns true; each argument reads behind the call as it read before'; 0 by the template 'total and deterministic' (their statements: YtnieacfleabikaaTotals.lean).
  GIVEN WITH THE SEED: the statements are not yours to turn. If you find one false, say at which input.
  Laid BY PROGRAM, IN A SANDBOX (cutbox-rows.mjs): the forced cells as the released guide's own fill.sh prints them over the translation b611cb014e4c9912… (all of the seat's roots in one cut). By AI agents, Wed Nov 11 2026. No macro, syntax, notation, axiom, sorry.
-/
import Derived.Test.YtnieacfleabikaaChecked
import GoSem.Claim
import GoSem.ClaimJoined
import GoSem.ClaimMapViews
import Derived.JoinedTies
import Derived.KernelRfl
namespace Go.Proofs.Ytnieacfleabikaa
/- THE CELL 'sum', in the pinned program and in every row, IS THE sha256 OF THE DUMP (.gsa) THAT YtnieacfleabikaaProg.lean LOADS. Nothing in Lean hashes anything: it is a label: what it is worth is what the hold of that sum in a sandbox is worth. -/
noncomputable def Try.pinned : Pinned := { name := "ytnieacfleabikaa", sum := "b611cb014e4c99126b706008a9f9d9cf10402816da00c086931a2d30514b57b6", checked := Try.checked }
namespace Rows
def none {H : Type} : Left H := { results := [], args := [] }

/-- 'damaskkeep.CoverJust': WHATEVER THE INPUT: true; the input reads as it did. -/
def coverJustSpec : ChangeSpec := { name := "coverJust", fn := fun _ => fun
  | [d1, d2, d3, d4, d5, d6] => { results := [.lit (.bool true)], args := [d1, d2, d3, d4, d5, d6] }
  | _ => none }
def coverJustRow : OpenClaim := { program := "ytnieacfleabikaa", sum := "b611cb014e4c99126b706008a9f9d9cf10402816da00c086931a2d30514b57b6", func := "damask/damaskkeep.CoverJust", spec := "coverJust", recurses := true, apart := false }
def CoverJustSaid : Prop := coverJustRow.holds Try.pinned (OpenSpec.ofChange coverJustSpec)

/-- ITS FALSE NEIGHBOUR: 'it returns false'. Refute it at one input. -/
def coverJustWrong : ChangeSpec := { name := "coverJust", fn := fun _ => fun
  | [d1, d2, d3, d4, d5, d6] => { results := [.lit (.bool false)], args := [d1, d2, d3, d4, d5, d6] }
  | _ => none }
def CoverJustWrongFalsely : Prop := coverJustRow.holds Try.pinned (OpenSpec.ofChange coverJustWrong)

/-- 'damaskkeep.PermSign': WHATEVER THE INPUT: true; the input reads as it did. -/
def permSignSpec : ChangeSpec := { name := "permSign", fn := fun _ => fun
  | [d1, d2, d3] => { results := [.lit (.bool true)], args := [d1, d2, d3] }
  | _ => none }
def permSignRow : OpenClaim := { program := "ytnieacfleabikaa", sum := "b611cb014e4c99126b706008a9f9d9cf10402816da00c086931a2d30514b57b6", func := "damask/damaskkeep.PermSign", spec := "permSign", recurses := true, apart := false }
def PermSignSaid : Prop := permSignRow.holds Try.pinned (OpenSpec.ofChange permSignSpec)

/-- ITS FALSE NEIGHBOUR: 'it returns false'. Refute it at one input. -/
def permSignWrong : ChangeSpec := { name := "permSign", fn := fun _ => fun
  | [d1, d2, d3] => { results := [.lit (.bool false)], args := [d1, d2, d3] }
  | _ => none }
def PermSignWrongFalsely : Prop := permSignRow.holds Try.pinned (OpenSpec.ofChange permSignWrong)

/-- 'damaskkeep.LisDilworth': WHATEVER THE INPUT: true; the input reads as it did. -/
def lisDilworthSpec : ChangeSpec := { name := "lisDilworth", fn := fun _ => fun
  | [d1, d2] => { results := [.lit (.bool true)], args := [d1, d2] }
  | _ => none }
def lisDilworthRow : OpenClaim := { program := "ytnieacfleabikaa", sum := "b611cb014e4c99126b706008a9f9d9cf10402816da00c086931a2d30514b57b6", func := "damask/damaskkeep.LisDilworth", spec := "lisDilworth", unfollowed := true, recurses := true, apart := false }
def LisDilworthSaid : Prop := lisDilworthRow.holds Try.pinned (OpenSpec.ofChange lisDilworthSpec)

/-- ITS FALSE NEIGHBOUR: 'it returns false'. Refute it at one input. -/
def lisDilworthWrong : ChangeSpec := { name := "lisDilworth", fn := fun _ => fun
  | [d1, d2] => { results := [.lit (.bool false)], args := [d1, d2] }
  | _ => none }
def LisDilworthWrongFalsely : Prop := lisDilworthRow.holds Try.pinned (OpenSpec.ofChange lisDilworthWrong)

/-- 'damaskkeep.LisSzekeres': WHATEVER THE INPUT: true; the input reads as it did. -/
def lisSzekeresSpec : ChangeSpec := { name := "lisSzekeres", fn := fun _ => fun
  | [d1, d2] => { results := [.lit (.bool true)], args := [d1, d2] }
  | _ => none }
def lisSzekeresRow : OpenClaim := { program := "ytnieacfleabikaa", sum := "b611cb014e4c99126b706008a9f9d9cf10402816da00c086931a2d30514b57b6", func := "damask/damaskkeep.LisSzekeres", spec := "lisSzekeres", unfollowed := true, recurses := true, apart := false }
def LisSzekeresSaid : Prop := lisSzekeresRow.holds Try.pinned (OpenSpec.ofChange lisSzekeresSpec)

/-- ITS FALSE NEIGHBOUR: 'it returns false'. Refute it at one input. -/
def lisSzekeresWrong : ChangeSpec := { name := "lisSzekeres", fn := fun _ => fun
  | [d1, d2] => { results := [.lit (.bool false)], args := [d1, d2] }
  | _ => none }
def LisSzekeresWrongFalsely : Prop := lisSzekeresRow.holds Try.pinned (OpenSpec.ofChange lisSzekeresWrong)

/-- 'damaskkeep.LisTurned': WHATEVER THE INPUT: true; the input reads as it did. -/
def lisTurnedSpec : ChangeSpec := { name := "lisTurned", fn := fun _ => fun
  | [d1, d2] => { results := [.lit (.bool true)], args := [d1, d2] }
  | _ => none }
def lisTurnedRow : OpenClaim := { program := "ytnieacfleabikaa", sum := "b611cb014e4c99126b706008a9f9d9cf10402816da00c086931a2d30514b57b6", func := "damask/damaskkeep.LisTurned", spec := "lisTurned", unfollowed := true, recurses := true, apart := false }
def LisTurnedSaid : Prop := lisTurnedRow.holds Try.pinned (OpenSpec.ofChange lisTurnedSpec)

/-- ITS FALSE NEIGHBOUR: 'it returns false'. Refute it at one input. -/
def lisTurnedWrong : ChangeSpec := { name := "lisTurned", fn := fun _ => fun
  | [d1, d2] => { results := [.lit (.bool false)], args := [d1, d2] }
  | _ => none }
def LisTurnedWrongFalsely : Prop := lisTurnedRow.holds Try.pinned (OpenSpec.ofChange lisTurnedWrong)

/-- 'damaskkeep.TopGreatest': WHATEVER THE INPUT: true; the input reads as it did. -/
def topGreatestSpec : ChangeSpec := { name := "topGreatest", fn := fun _ => fun
  | [d1, d2, d3] => { results := [.lit (.bool true)], args := [d1, d2, d3] }
  | _ => none }
def topGreatestRow : OpenClaim := { program := "ytnieacfleabikaa", sum := "b611cb014e4c99126b706008a9f9d9cf10402816da00c086931a2d30514b57b6", func := "damask/damaskkeep.TopGreatest", spec := "topGreatest", unfollowed := true, recurses := true, apart := false }
def TopGreatestSaid : Prop := topGreatestRow.holds Try.pinned (OpenSpec.ofChange topGreatestSpec)

/-- ITS FALSE NEIGHBOUR: 'it returns false'. Refute it at one input. -/
def topGreatestWrong : ChangeSpec := { name := "topGreatest", fn := fun _ => fun
  | [d1, d2, d3] => { results := [.lit (.bool false)], args := [d1, d2, d3] }
  | _ => none }
def TopGreatestWrongFalsely : Prop := topGreatestRow.holds Try.pinned (OpenSpec.ofChange topGreatestWrong)

/-- 'damaskkeep.TopSplit': WHATEVER THE INPUT: true; the input reads as it did. -/
def topSplitSpec : ChangeSpec := { name := "topSplit", fn := fun _ => fun
  | [d1, d2, d3, d4] => { results := [.lit (.bool true)], args := [d1, d2, d3, d4] }
  | _ => none }
def topSplitRow : OpenClaim := { program := "ytnieacfleabikaa", sum := "b611cb014e4c99126b706008a9f9d9cf10402816da00c086931a2d30514b57b6", func := "damask/damaskkeep.TopSplit", spec := "topSplit", unfollowed := true, recurses := true, apart := false }
def TopSplitSaid : Prop := topSplitRow.holds Try.pinned (OpenSpec.ofChange topSplitSpec)

/-- ITS FALSE NEIGHBOUR: 'it returns false'. Refute it at one input. -/
def topSplitWrong : ChangeSpec := { name := "topSplit", fn := fun _ => fun
  | [d1, d2, d3, d4] => { results := [.lit (.bool false)], args := [d1, d2, d3, d4] }
  | _ => none }
def TopSplitWrongFalsely : Prop := topSplitRow.holds Try.pinned (OpenSpec.ofChange topSplitWrong)

/-- 'damaskkeep.TreeMeets': WHATEVER THE INPUT: true; the input reads as it did. -/
def treeMeetsSpec : ChangeSpec := { name := "treeMeets", fn := fun _ => fun
  | [d1, d2, d3] => { results := [.lit (.bool true)], args := [d1, d2, d3] }
  | _ => none }
def treeMeetsRow : OpenClaim := { program := "ytnieacfleabikaa", sum := "b611cb014e4c99126b706008a9f9d9cf10402816da00c086931a2d30514b57b6", func := "damask/damaskkeep.TreeMeets", spec := "treeMeets", unfollowed := true, recurses := true, apart := false }
def TreeMeetsSaid : Prop := treeMeetsRow.holds Try.pinned (OpenSpec.ofChange treeMeetsSpec)

/-- ITS FALSE NEIGHBOUR: 'it returns false'. Refute it at one input. -/
def treeMeetsWrong : ChangeSpec := { name := "treeMeets", fn := fun _ => fun
  | [d1, d2, d3] => { results := [.lit (.bool false)], args := [d1, d2, d3] }
  | _ => none }
def TreeMeetsWrongFalsely : Prop := treeMeetsRow.holds Try.pinned (OpenSpec.ofChange treeMeetsWrong)

/-- 'damaskkeep.SegTold': WHATEVER THE INPUT: true; the input reads as it did. -/
def segToldSpec : ChangeSpec := { name := "segTold", fn := fun _ => fun
  | [d1, d2, d3, d4] => { results := [.lit (.bool true)], args := [d1, d2, d3, d4] }
  | _ => none }
def segToldRow : OpenClaim := { program := "ytnieacfleabikaa", sum := "b611cb014e4c99126b706008a9f9d9cf10402816da00c086931a2d30514b57b6", func := "damask/damaskkeep.SegTold", spec := "segTold", unfollowed := true, recurses := true, apart := false }
def SegToldSaid : Prop := segToldRow.holds Try.pinned (OpenSpec.ofChange segToldSpec)

/-- ITS FALSE NEIGHBOUR: 'it returns false'. Refute it at one input. -/
def segToldWrong : ChangeSpec := { name := "segTold", fn := fun _ => fun
  | [d1, d2, d3, d4] => { results := [.lit (.bool false)], args := [d1, d2, d3, d4] }
  | _ => none }
def SegToldWrongFalsely : Prop := segToldRow.holds Try.pinned (OpenSpec.ofChange segToldWrong)

/-- 'damaskkeep.SegSplit': WHATEVER THE INPUT: true; the input reads as it did. -/
def segSplitSpec : ChangeSpec := { name := "segSplit", fn := fun _ => fun
  | [d1, d2, d3, d4] => { results := [.lit (.bool true)], args := [d1, d2, d3, d4] }
  | _ => none }
def segSplitRow : OpenClaim := { program := "ytnieacfleabikaa", sum := "b611cb014e4c99126b706008a9f9d9cf10402816da00c086931a2d30514b57b6", func := "damask/damaskkeep.SegSplit", spec := "segSplit", unfollowed := true, recurses := true, apart := false }
def SegSplitSaid : Prop := segSplitRow.holds Try.pinned (OpenSpec.ofChange segSplitSpec)

/-- ITS FALSE NEIGHBOUR: 'it returns false'. Refute it at one input. -/
def segSplitWrong : ChangeSpec := { name := "segSplit", fn := fun _ => fun
  | [d1, d2, d3, d4] => { results := [.lit (.bool false)], args := [d1, d2, d3, d4] }
  | _ => none }
def SegSplitWrongFalsely : Prop := segSplitRow.holds Try.pinned (OpenSpec.ofChange segSplitWrong)

/-- 'damaskkeep.SegTurned': WHATEVER THE INPUT: true; the input reads as it did. -/
def segTurnedSpec : ChangeSpec := { name := "segTurned", fn := fun _ => fun
  | [d1, d2, d3] => { results := [.lit (.bool true)], args := [d1, d2, d3] }
  | _ => none }
def segTurnedRow : OpenClaim := { program := "ytnieacfleabikaa", sum := "b611cb014e4c99126b706008a9f9d9cf10402816da00c086931a2d30514b57b6", func := "damask/damaskkeep.SegTurned", spec := "segTurned", unfollowed := true, recurses := true, apart := false }
def SegTurnedSaid : Prop := segTurnedRow.holds Try.pinned (OpenSpec.ofChange segTurnedSpec)

/-- ITS FALSE NEIGHBOUR: 'it returns false'. Refute it at one input. -/
def segTurnedWrong : ChangeSpec := { name := "segTurned", fn := fun _ => fun
  | [d1, d2, d3] => { results := [.lit (.bool false)], args := [d1, d2, d3] }
  | _ => none }
def SegTurnedWrongFalsely : Prop := segTurnedRow.holds Try.pinned (OpenSpec.ofChange segTurnedWrong)

/-- 'damaskkeep.PersStays': WHATEVER THE INPUT: true; the input reads as it did. -/
def persStaysSpec : ChangeSpec := { name := "persStays", fn := fun _ => fun
  | [d1, d2] => { results := [.lit (.bool true)], args := [d1, d2] }
  | _ => none }
def persStaysRow : OpenClaim := { program := "ytnieacfleabikaa", sum := "b611cb014e4c99126b706008a9f9d9cf10402816da00c086931a2d30514b57b6", func := "damask/damaskkeep.PersStays", spec := "persStays", unfollowed := true, recurses := true, apart := false }
def PersStaysSaid : Prop := persStaysRow.holds Try.pinned (OpenSpec.ofChange persStaysSpec)

/-- ITS FALSE NEIGHBOUR: 'it returns false'. Refute it at one input. -/
def persStaysWrong : ChangeSpec := { name := "persStays", fn := fun _ => fun
  | [d1, d2] => { results := [.lit (.bool false)], args := [d1, d2] }
  | _ => none }
def PersStaysWrongFalsely : Prop := persStaysRow.holds Try.pinned (OpenSpec.ofChange persStaysWrong)

/- THE SECOND FORM. 'bulk': how many values and letters a reading holds, each counted each time it is reached (what is shared counts as often as it is met; a slice's spare places count too). A statement '..UptoSaid' is the law's where the arguments, and the package variables that the reading takes, are together of bulk at most 1048576: NARROWER than '..Said'. Prove '..Said' where nothing that the law and all that it calls make is longer than what came in: it says more and counts as full. Else prove '..UptoSaid'. A law counts once. -/
mutual
def uptoBulk {H : Type} : DataW H → Nat
  | .lit (.string bytes) => bytes.length + 1
  | .lit _ => 1
  | .nil => 1
  | .ptr d => uptoBulk d + 1
  | .slice elems spare => uptoBulkAll elems + uptoBulkAll spare + 1
  | .agg parts => uptoBulkAll parts + 1
  | .iface _ d => uptoBulk d + 1
  | .map entries => uptoBulkEntries entries + 1
  | .held _ => 1
def uptoBulkAll {H : Type} : List (DataW H) → Nat
  | [] => 0
  | d :: r => uptoBulk d + uptoBulkAll r
def uptoBulkEntries {H : Type} : List (Lit × DataW H) → Nat
  | [] => 0
  | x :: r => uptoBulkEntry x + uptoBulkEntries r
def uptoBulkEntry {H : Type} : Lit × DataW H → Nat
  | (.string bytes, d) => bytes.length + uptoBulk d + 1
  | (_, d) => uptoBulk d + 1
 end
def uptoSmall : (H : Type) → List (DataW H) → Bool := fun _ ds => decide (uptoBulkAll ds ≤ 1048576)
def OpenSpec.upto (s : _root_.Go.ChangeSpec) : _root_.Go.OpenSpec := { _root_.Go.OpenSpec.ofChange s with cond := some uptoSmall }

/-- 'damaskkeep.CoverJust', WHERE WHAT IT READS IS OF BULK AT MOST 1048576: true; the input reads as it did. -/
def coverJustUptoRow : OpenClaim := { program := "ytnieacfleabikaa", sum := "b611cb014e4c99126b706008a9f9d9cf10402816da00c086931a2d30514b57b6", func := "damask/damaskkeep.CoverJust", spec := "coverJust", recurses := true, apart := false, narrowed := true }
def CoverJustUptoSaid : Prop := coverJustUptoRow.holds Try.pinned (OpenSpec.upto coverJustSpec)

/-- 'damaskkeep.PermSign', WHERE WHAT IT READS IS OF BULK AT MOST 1048576: true; the input reads as it did. -/
def permSignUptoRow : OpenClaim := { program := "ytnieacfleabikaa", sum := "b611cb014e4c99126b706008a9f9d9cf10402816da00c086931a2d30514b57b6", func := "damask/damaskkeep.PermSign", spec := "permSign", recurses := true, apart := false, narrowed := true }
def PermSignUptoSaid : Prop := permSignUptoRow.holds Try.pinned (OpenSpec.upto permSignSpec)

/-- 'damaskkeep.LisDilworth', WHERE WHAT IT READS IS OF BULK AT MOST 1048576: true; the input reads as it did. -/
def lisDilworthUptoRow : OpenClaim := { program := "ytnieacfleabikaa", sum := "b611cb014e4c99126b706008a9f9d9cf10402816da00c086931a2d30514b57b6", func := "damask/damaskkeep.LisDilworth", spec := "lisDilworth", unfollowed := true, recurses := true, apart := false, narrowed := true }
def LisDilworthUptoSaid : Prop := lisDilworthUptoRow.holds Try.pinned (OpenSpec.upto lisDilworthSpec)

/-- 'damaskkeep.LisSzekeres', WHERE WHAT IT READS IS OF BULK AT MOST 1048576: true; the input reads as it did. -/
def lisSzekeresUptoRow : OpenClaim := { program := "ytnieacfleabikaa", sum := "b611cb014e4c99126b706008a9f9d9cf10402816da00c086931a2d30514b57b6", func := "damask/damaskkeep.LisSzekeres", spec := "lisSzekeres", unfollowed := true, recurses := true, apart := false, narrowed := true }
def LisSzekeresUptoSaid : Prop := lisSzekeresUptoRow.holds Try.pinned (OpenSpec.upto lisSzekeresSpec)

/-- 'damaskkeep.LisTurned', WHERE WHAT IT READS IS OF BULK AT MOST 1048576: true; the input reads as it did. -/
def lisTurnedUptoRow : OpenClaim := { program := "ytnieacfleabikaa", sum := "b611cb014e4c99126b706008a9f9d9cf10402816da00c086931a2d30514b57b6", func := "damask/damaskkeep.LisTurned", spec := "lisTurned", unfollowed := true, recurses := true, apart := false, narrowed := true }
def LisTurnedUptoSaid : Prop := lisTurnedUptoRow.holds Try.pinned (OpenSpec.upto lisTurnedSpec)

/-- 'damaskkeep.TopGreatest', WHERE WHAT IT READS IS OF BULK AT MOST 1048576: true; the input reads as it did. -/
def topGreatestUptoRow : OpenClaim := { program := "ytnieacfleabikaa", sum := "b611cb014e4c99126b706008a9f9d9cf10402816da00c086931a2d30514b57b6", func := "damask/damaskkeep.TopGreatest", spec := "topGreatest", unfollowed := true, recurses := true, apart := false, narrowed := true }
def TopGreatestUptoSaid : Prop := topGreatestUptoRow.holds Try.pinned (OpenSpec.upto topGreatestSpec)

/-- 'damaskkeep.TopSplit', WHERE WHAT IT READS IS OF BULK AT MOST 1048576: true; the input reads as it did. -/
def topSplitUptoRow : OpenClaim := { program := "ytnieacfleabikaa", sum := "b611cb014e4c99126b706008a9f9d9cf10402816da00c086931a2d30514b57b6", func := "damask/damaskkeep.TopSplit", spec := "topSplit", unfollowed := true, recurses := true, apart := false, narrowed := true }
def TopSplitUptoSaid : Prop := topSplitUptoRow.holds Try.pinned (OpenSpec.upto topSplitSpec)

/-- 'damaskkeep.TreeMeets', WHERE WHAT IT READS IS OF BULK AT MOST 1048576: true; the input reads as it did. -/
def treeMeetsUptoRow : OpenClaim := { program := "ytnieacfleabikaa", sum := "b611cb014e4c99126b706008a9f9d9cf10402816da00c086931a2d30514b57b6", func := "damask/damaskkeep.TreeMeets", spec := "treeMeets", unfollowed := true, recurses := true, apart := false, narrowed := true }
def TreeMeetsUptoSaid : Prop := treeMeetsUptoRow.holds Try.pinned (OpenSpec.upto treeMeetsSpec)

/-- 'damaskkeep.SegTold', WHERE WHAT IT READS IS OF BULK AT MOST 1048576: true; the input reads as it did. -/
def segToldUptoRow : OpenClaim := { program := "ytnieacfleabikaa", sum := "b611cb014e4c99126b706008a9f9d9cf10402816da00c086931a2d30514b57b6", func := "damask/damaskkeep.SegTold", spec := "segTold", unfollowed := true, recurses := true, apart := false, narrowed := true }
def SegToldUptoSaid : Prop := segToldUptoRow.holds Try.pinned (OpenSpec.upto segToldSpec)

/-- 'damaskkeep.SegSplit', WHERE WHAT IT READS IS OF BULK AT MOST 1048576: true; the input reads as it did. -/
def segSplitUptoRow : OpenClaim := { program := "ytnieacfleabikaa", sum := "b611cb014e4c99126b706008a9f9d9cf10402816da00c086931a2d30514b57b6", func := "damask/damaskkeep.SegSplit", spec := "segSplit", unfollowed := true, recurses := true, apart := false, narrowed := true }
def SegSplitUptoSaid : Prop := segSplitUptoRow.holds Try.pinned (OpenSpec.upto segSplitSpec)

/-- 'damaskkeep.SegTurned', WHERE WHAT IT READS IS OF BULK AT MOST 1048576: true; the input reads as it did. -/
def segTurnedUptoRow : OpenClaim := { program := "ytnieacfleabikaa", sum := "b611cb014e4c99126b706008a9f9d9cf10402816da00c086931a2d30514b57b6", func := "damask/damaskkeep.SegTurned", spec := "segTurned", unfollowed := true, recurses := true, apart := false, narrowed := true }
def SegTurnedUptoSaid : Prop := segTurnedUptoRow.holds Try.pinned (OpenSpec.upto segTurnedSpec)

/-- 'damaskkeep.PersStays', WHERE WHAT IT READS IS OF BULK AT MOST 1048576: true; the input reads as it did. -/
def persStaysUptoRow : OpenClaim := { program := "ytnieacfleabikaa", sum := "b611cb014e4c99126b706008a9f9d9cf10402816da00c086931a2d30514b57b6", func := "damask/damaskkeep.PersStays", spec := "persStays", unfollowed := true, recurses := true, apart := false, narrowed := true }
def PersStaysUptoSaid : Prop := persStaysUptoRow.holds Try.pinned (OpenSpec.upto persStaysSpec)

end Rows
end Go.Proofs.Ytnieacfleabikaa

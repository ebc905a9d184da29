/-
  No cell of these rows narrows 'for every input' (looked for: loops, veiled, ifaces, maps, wideKeys, modest, calm, conditions, laid).
  DERIVED. THE GIVEN ROWS OF THIS SEAT. 12 by the template 'for every input the law returns true; each argument reads behind the call as it read before'; 0 by the template 'total and deterministic' (their statements: YtaelcebfepbckaaTotals.lean).
  GIVEN WITH THE SEED: the statements are not yours to turn. If you find one false, say at which input.
  Laid BY PROGRAM, IN A SANDBOX (cutbox-rows.mjs): the forced cells as the released guide's own fill.sh prints them over the translation bb43aa2367a4d02d… (all of the seat's roots in one cut). By AI agents, Wed Nov 11 2026. No macro, syntax, notation, axiom, sorry.
-/
import Derived.Test.YtaelcebfepbckaaChecked
import GoSem.Claim
import GoSem.ClaimJoined
import GoSem.ClaimMapViews
import Derived.JoinedTies
import Derived.KernelRfl
namespace Go.Proofs.Ytaelcebfepbckaa
/- THE CELL 'sum', in the pinned program and in every row, IS THE sha256 OF THE DUMP (.gsa) THAT YtaelcebfepbckaaProg.lean LOADS. Nothing in Lean hashes anything: it is a label: what it is worth is what the hold of that sum in a sandbox is worth. -/
noncomputable def Try.pinned : Pinned := { name := "ytaelcebfepbckaa", sum := "bb43aa2367a4d02dacbc948ccfd547ca6abd0d3a4328bf340449e76f45f96dee", checked := Try.checked }
namespace Rows
def none {H : Type} : Left H := { results := [], args := [] }

/-- 'damaskkeep.LisTurned': WHATEVER THE INPUT: true; the input reads as it did. -/
def lisTurnedSpec : ChangeSpec := { name := "lisTurned", fn := fun _ => fun
  | [d1, d2] => { results := [.lit (.bool true)], args := [d1, d2] }
  | _ => none }
def lisTurnedRow : OpenClaim := { program := "ytaelcebfepbckaa", sum := "bb43aa2367a4d02dacbc948ccfd547ca6abd0d3a4328bf340449e76f45f96dee", func := "damask/damaskkeep.LisTurned", spec := "lisTurned", unfollowed := true, recurses := true, apart := false }
def LisTurnedSaid : Prop := lisTurnedRow.holds Try.pinned (OpenSpec.ofChange lisTurnedSpec)

/-- ITS FALSE NEIGHBOUR: 'it returns false'. Refute it at one input. -/
def lisTurnedWrong : ChangeSpec := { name := "lisTurned", fn := fun _ => fun
  | [d1, d2] => { results := [.lit (.bool false)], args := [d1, d2] }
  | _ => none }
def LisTurnedWrongFalsely : Prop := lisTurnedRow.holds Try.pinned (OpenSpec.ofChange lisTurnedWrong)

/-- 'damaskkeep.PersStays': WHATEVER THE INPUT: true; the input reads as it did. -/
def persStaysSpec : ChangeSpec := { name := "persStays", fn := fun _ => fun
  | [d1, d2] => { results := [.lit (.bool true)], args := [d1, d2] }
  | _ => none }
def persStaysRow : OpenClaim := { program := "ytaelcebfepbckaa", sum := "bb43aa2367a4d02dacbc948ccfd547ca6abd0d3a4328bf340449e76f45f96dee", func := "damask/damaskkeep.PersStays", spec := "persStays", unfollowed := true, recurses := true, apart := false }
def PersStaysSaid : Prop := persStaysRow.holds Try.pinned (OpenSpec.ofChange persStaysSpec)

/-- ITS FALSE NEIGHBOUR: 'it returns false'. Refute it at one input. -/
def persStaysWrong : ChangeSpec := { name := "persStays", fn := fun _ => fun
  | [d1, d2] => { results := [.lit (.bool false)], args := [d1, d2] }
  | _ => none }
def PersStaysWrongFalsely : Prop := persStaysRow.holds Try.pinned (OpenSpec.ofChange persStaysWrong)

/-- 'damaskkeep.PersCheap': WHATEVER THE INPUT: true; the input reads as it did. -/
def persCheapSpec : ChangeSpec := { name := "persCheap", fn := fun _ => fun
  | [d1, d2] => { results := [.lit (.bool true)], args := [d1, d2] }
  | _ => none }
def persCheapRow : OpenClaim := { program := "ytaelcebfepbckaa", sum := "bb43aa2367a4d02dacbc948ccfd547ca6abd0d3a4328bf340449e76f45f96dee", func := "damask/damaskkeep.PersCheap", spec := "persCheap", unfollowed := true, recurses := true, apart := false }
def PersCheapSaid : Prop := persCheapRow.holds Try.pinned (OpenSpec.ofChange persCheapSpec)

/-- ITS FALSE NEIGHBOUR: 'it returns false'. Refute it at one input. -/
def persCheapWrong : ChangeSpec := { name := "persCheap", fn := fun _ => fun
  | [d1, d2] => { results := [.lit (.bool false)], args := [d1, d2] }
  | _ => none }
def PersCheapWrongFalsely : Prop := persCheapRow.holds Try.pinned (OpenSpec.ofChange persCheapWrong)

/-- 'damasktop.TopVersions': WHATEVER THE INPUT: true; the input reads as it did. -/
def topVersionsSpec : ChangeSpec := { name := "topVersions", fn := fun _ => fun
  | [d1, d2] => { results := [.lit (.bool true)], args := [d1, d2] }
  | _ => none }
def topVersionsRow : OpenClaim := { program := "ytaelcebfepbckaa", sum := "bb43aa2367a4d02dacbc948ccfd547ca6abd0d3a4328bf340449e76f45f96dee", func := "damask/damasktop.TopVersions", spec := "topVersions", unfollowed := true, recurses := true, apart := false }
def TopVersionsSaid : Prop := topVersionsRow.holds Try.pinned (OpenSpec.ofChange topVersionsSpec)

/-- ITS FALSE NEIGHBOUR: 'it returns false'. Refute it at one input. -/
def topVersionsWrong : ChangeSpec := { name := "topVersions", fn := fun _ => fun
  | [d1, d2] => { results := [.lit (.bool false)], args := [d1, d2] }
  | _ => none }
def TopVersionsWrongFalsely : Prop := topVersionsRow.holds Try.pinned (OpenSpec.ofChange topVersionsWrong)

/-- 'damaskkeep.RowJoin': WHATEVER THE INPUT: true; the input reads as it did. -/
def rowJoinSpec : ChangeSpec := { name := "rowJoin", fn := fun _ => fun
  | [d1, d2, d3] => { results := [.lit (.bool true)], args := [d1, d2, d3] }
  | _ => none }
def rowJoinRow : OpenClaim := { program := "ytaelcebfepbckaa", sum := "bb43aa2367a4d02dacbc948ccfd547ca6abd0d3a4328bf340449e76f45f96dee", func := "damask/damaskkeep.RowJoin", spec := "rowJoin", apart := false }
def RowJoinSaid : Prop := rowJoinRow.holds Try.pinned (OpenSpec.ofChange rowJoinSpec)

/-- ITS FALSE NEIGHBOUR: 'it returns false'. Refute it at one input. -/
def rowJoinWrong : ChangeSpec := { name := "rowJoin", fn := fun _ => fun
  | [d1, d2, d3] => { results := [.lit (.bool false)], args := [d1, d2, d3] }
  | _ => none }
def RowJoinWrongFalsely : Prop := rowJoinRow.holds Try.pinned (OpenSpec.ofChange rowJoinWrong)

/-- 'damaskkeep.RowBack': WHATEVER THE INPUT: true; the input reads as it did. -/
def rowBackSpec : ChangeSpec := { name := "rowBack", fn := fun _ => fun
  | [d] => { results := [.lit (.bool true)], args := [d] }
  | _ => none }
def rowBackRow : OpenClaim := { program := "ytaelcebfepbckaa", sum := "bb43aa2367a4d02dacbc948ccfd547ca6abd0d3a4328bf340449e76f45f96dee", func := "damask/damaskkeep.RowBack", spec := "rowBack", apart := false }
def RowBackSaid : Prop := rowBackRow.holds Try.pinned (OpenSpec.ofChange rowBackSpec)

/-- ITS FALSE NEIGHBOUR: 'it returns false'. Refute it at one input. -/
def rowBackWrong : ChangeSpec := { name := "rowBack", fn := fun _ => fun
  | [d] => { results := [.lit (.bool false)], args := [d] }
  | _ => none }
def RowBackWrongFalsely : Prop := rowBackRow.holds Try.pinned (OpenSpec.ofChange rowBackWrong)

/-- 'damaskkeep.RowSelect': WHATEVER THE INPUT: true; the input reads as it did. -/
def rowSelectSpec : ChangeSpec := { name := "rowSelect", fn := fun _ => fun
  | [d1, d2, d3] => { results := [.lit (.bool true)], args := [d1, d2, d3] }
  | _ => none }
def rowSelectRow : OpenClaim := { program := "ytaelcebfepbckaa", sum := "bb43aa2367a4d02dacbc948ccfd547ca6abd0d3a4328bf340449e76f45f96dee", func := "damask/damaskkeep.RowSelect", spec := "rowSelect", apart := false }
def RowSelectSaid : Prop := rowSelectRow.holds Try.pinned (OpenSpec.ofChange rowSelectSpec)

/-- ITS FALSE NEIGHBOUR: 'it returns false'. Refute it at one input. -/
def rowSelectWrong : ChangeSpec := { name := "rowSelect", fn := fun _ => fun
  | [d1, d2, d3] => { results := [.lit (.bool false)], args := [d1, d2, d3] }
  | _ => none }
def RowSelectWrongFalsely : Prop := rowSelectRow.holds Try.pinned (OpenSpec.ofChange rowSelectWrong)

/-- 'damaskkeep.TopGreatest': WHATEVER THE INPUT: true; the input reads as it did. -/
def topGreatestSpec : ChangeSpec := { name := "topGreatest", fn := fun _ => fun
  | [d1, d2, d3] => { results := [.lit (.bool true)], args := [d1, d2, d3] }
  | _ => none }
def topGreatestRow : OpenClaim := { program := "ytaelcebfepbckaa", sum := "bb43aa2367a4d02dacbc948ccfd547ca6abd0d3a4328bf340449e76f45f96dee", func := "damask/damaskkeep.TopGreatest", spec := "topGreatest", unfollowed := true, recurses := true, apart := false }
def TopGreatestSaid : Prop := topGreatestRow.holds Try.pinned (OpenSpec.ofChange topGreatestSpec)

/-- ITS FALSE NEIGHBOUR: 'it returns false'. Refute it at one input. -/
def topGreatestWrong : ChangeSpec := { name := "topGreatest", fn := fun _ => fun
  | [d1, d2, d3] => { results := [.lit (.bool false)], args := [d1, d2, d3] }
  | _ => none }
def TopGreatestWrongFalsely : Prop := topGreatestRow.holds Try.pinned (OpenSpec.ofChange topGreatestWrong)

/-- 'damaskkeep.TopSplit': WHATEVER THE INPUT: true; the input reads as it did. -/
def topSplitSpec : ChangeSpec := { name := "topSplit", fn := fun _ => fun
  | [d1, d2, d3, d4] => { results := [.lit (.bool true)], args := [d1, d2, d3, d4] }
  | _ => none }
def topSplitRow : OpenClaim := { program := "ytaelcebfepbckaa", sum := "bb43aa2367a4d02dacbc948ccfd547ca6abd0d3a4328bf340449e76f45f96dee", func := "damask/damaskkeep.TopSplit", spec := "topSplit", unfollowed := true, recurses := true, apart := false }
def TopSplitSaid : Prop := topSplitRow.holds Try.pinned (OpenSpec.ofChange topSplitSpec)

/-- ITS FALSE NEIGHBOUR: 'it returns false'. Refute it at one input. -/
def topSplitWrong : ChangeSpec := { name := "topSplit", fn := fun _ => fun
  | [d1, d2, d3, d4] => { results := [.lit (.bool false)], args := [d1, d2, d3, d4] }
  | _ => none }
def TopSplitWrongFalsely : Prop := topSplitRow.holds Try.pinned (OpenSpec.ofChange topSplitWrong)

/-- 'damaskkeep.TreeMeets': WHATEVER THE INPUT: true; the input reads as it did. -/
def treeMeetsSpec : ChangeSpec := { name := "treeMeets", fn := fun _ => fun
  | [d1, d2, d3] => { results := [.lit (.bool true)], args := [d1, d2, d3] }
  | _ => none }
def treeMeetsRow : OpenClaim := { program := "ytaelcebfepbckaa", sum := "bb43aa2367a4d02dacbc948ccfd547ca6abd0d3a4328bf340449e76f45f96dee", func := "damask/damaskkeep.TreeMeets", spec := "treeMeets", unfollowed := true, recurses := true, apart := false }
def TreeMeetsSaid : Prop := treeMeetsRow.holds Try.pinned (OpenSpec.ofChange treeMeetsSpec)

/-- ITS FALSE NEIGHBOUR: 'it returns false'. Refute it at one input. -/
def treeMeetsWrong : ChangeSpec := { name := "treeMeets", fn := fun _ => fun
  | [d1, d2, d3] => { results := [.lit (.bool false)], args := [d1, d2, d3] }
  | _ => none }
def TreeMeetsWrongFalsely : Prop := treeMeetsRow.holds Try.pinned (OpenSpec.ofChange treeMeetsWrong)

/-- 'damaskkeep.SegTold': WHATEVER THE INPUT: true; the input reads as it did. -/
def segToldSpec : ChangeSpec := { name := "segTold", fn := fun _ => fun
  | [d1, d2, d3, d4] => { results := [.lit (.bool true)], args := [d1, d2, d3, d4] }
  | _ => none }
def segToldRow : OpenClaim := { program := "ytaelcebfepbckaa", sum := "bb43aa2367a4d02dacbc948ccfd547ca6abd0d3a4328bf340449e76f45f96dee", func := "damask/damaskkeep.SegTold", spec := "segTold", unfollowed := true, recurses := true, apart := false }
def SegToldSaid : Prop := segToldRow.holds Try.pinned (OpenSpec.ofChange segToldSpec)

/-- ITS FALSE NEIGHBOUR: 'it returns false'. Refute it at one input. -/
def segToldWrong : ChangeSpec := { name := "segTold", fn := fun _ => fun
  | [d1, d2, d3, d4] => { results := [.lit (.bool false)], args := [d1, d2, d3, d4] }
  | _ => none }
def SegToldWrongFalsely : Prop := segToldRow.holds Try.pinned (OpenSpec.ofChange segToldWrong)

/-- 'damaskkeep.SegSplit': WHATEVER THE INPUT: true; the input reads as it did. -/
def segSplitSpec : ChangeSpec := { name := "segSplit", fn := fun _ => fun
  | [d1, d2, d3, d4] => { results := [.lit (.bool true)], args := [d1, d2, d3, d4] }
  | _ => none }
def segSplitRow : OpenClaim := { program := "ytaelcebfepbckaa", sum := "bb43aa2367a4d02dacbc948ccfd547ca6abd0d3a4328bf340449e76f45f96dee", func := "damask/damaskkeep.SegSplit", spec := "segSplit", unfollowed := true, recurses := true, apart := false }
def SegSplitSaid : Prop := segSplitRow.holds Try.pinned (OpenSpec.ofChange segSplitSpec)

/-- ITS FALSE NEIGHBOUR: 'it returns false'. Refute it at one input. -/
def segSplitWrong : ChangeSpec := { name := "segSplit", fn := fun _ => fun
  | [d1, d2, d3, d4] => { results := [.lit (.bool false)], args := [d1, d2, d3, d4] }
  | _ => none }
def SegSplitWrongFalsely : Prop := segSplitRow.holds Try.pinned (OpenSpec.ofChange segSplitWrong)

/- THE SECOND FORM. 'bulk': how many values and letters a reading holds, each counted each time it is reached (what is shared counts as often as it is met; a slice's spare places count too). A statement '..UptoSaid' is the law's where the arguments, and the package variables that the reading takes, are together of bulk at most 1048576: NARROWER than '..Said'. Prove '..Said' where nothing that the law and all that it calls make is longer than what came in: it says more and counts as full. Else prove '..UptoSaid'. A law counts once. -/
mutual
def uptoBulk {H : Type} : DataW H → Nat
  | .lit (.string bytes) => bytes.length + 1
  | .lit _ => 1
  | .nil => 1
  | .ptr d => uptoBulk d + 1
  | .slice elems spare => uptoBulkAll elems + uptoBulkAll spare + 1
  | .agg parts => uptoBulkAll parts + 1
  | .iface _ d => uptoBulk d + 1
  | .map entries => uptoBulkEntries entries + 1
  | .held _ => 1
def uptoBulkAll {H : Type} : List (DataW H) → Nat
  | [] => 0
  | d :: r => uptoBulk d + uptoBulkAll r
def uptoBulkEntries {H : Type} : List (Lit × DataW H) → Nat
  | [] => 0
  | x :: r => uptoBulkEntry x + uptoBulkEntries r
def uptoBulkEntry {H : Type} : Lit × DataW H → Nat
  | (.string bytes, d) => bytes.length + uptoBulk d + 1
  | (_, d) => uptoBulk d + 1
 end
def uptoSmall : (H : Type) → List (DataW H) → Bool := fun _ ds => decide (uptoBulkAll ds ≤ 1048576)
def OpenSpec.upto (s : _root_.Go.ChangeSpec) : _root_.Go.OpenSpec := { _root_.Go.OpenSpec.ofChange s with cond := some uptoSmall }

/-- 'damaskkeep.LisTurned', WHERE WHAT IT READS IS OF BULK AT MOST 1048576: true; the input reads as it did. -/
def lisTurnedUptoRow : OpenClaim := { program := "ytaelcebfepbckaa", sum := "bb43aa2367a4d02dacbc948ccfd547ca6abd0d3a4328bf340449e76f45f96dee", func := "damask/damaskkeep.LisTurned", spec := "lisTurned", unfollowed := true, recurses := true, apart := false, narrowed := true }
def LisTurnedUptoSaid : Prop := lisTurnedUptoRow.holds Try.pinned (OpenSpec.upto lisTurnedSpec)

/-- 'damaskkeep.PersStays', WHERE WHAT IT READS IS OF BULK AT MOST 1048576: true; the input reads as it did. -/
def persStaysUptoRow : OpenClaim := { program := "ytaelcebfepbckaa", sum := "bb43aa2367a4d02dacbc948ccfd547ca6abd0d3a4328bf340449e76f45f96dee", func := "damask/damaskkeep.PersStays", spec := "persStays", unfollowed := true, recurses := true, apart := false, narrowed := true }
def PersStaysUptoSaid : Prop := persStaysUptoRow.holds Try.pinned (OpenSpec.upto persStaysSpec)

/-- 'damaskkeep.PersCheap', WHERE WHAT IT READS IS OF BULK AT MOST 1048576: true; the input reads as it did. -/
def persCheapUptoRow : OpenClaim := { program := "ytaelcebfepbckaa", sum := "bb43aa2367a4d02dacbc948ccfd547ca6abd0d3a4328bf340449e76f45f96dee", func := "damask/damaskkeep.PersCheap", spec := "persCheap", unfollowed := true, recurses := true, apart := false, narrowed := true }
def PersCheapUptoSaid : Prop := persCheapUptoRow.holds Try.pinned (OpenSpec.upto persCheapSpec)

/-- 'damasktop.TopVersions', WHERE WHAT IT READS IS OF BULK AT MOST 1048576: true; the input reads as it did. -/
def topVersionsUptoRow : OpenClaim := { program := "ytaelcebfepbckaa", sum := "bb43aa2367a4d02dacbc948ccfd547ca6abd0d3a4328bf340449e76f45f96dee", func := "damask/damasktop.TopVersions", spec := "topVersions", unfollowed := true, recurses := true, apart := false, narrowed := true }
def TopVersionsUptoSaid : Prop := topVersionsUptoRow.holds Try.pinned (OpenSpec.upto topVersionsSpec)

/-- 'damaskkeep.RowJoin', WHERE WHAT IT READS IS OF BULK AT MOST 1048576: true; the input reads as it did. -/
def rowJoinUptoRow : OpenClaim := { program := "ytaelcebfepbckaa", sum := "bb43aa2367a4d02dacbc948ccfd547ca6abd0d3a4328bf340449e76f45f96dee", func := "damask/damaskkeep.RowJoin", spec := "rowJoin", apart := false, narrowed := true }
def RowJoinUptoSaid : Prop := rowJoinUptoRow.holds Try.pinned (OpenSpec.upto rowJoinSpec)

/-- 'damaskkeep.RowBack', WHERE WHAT IT READS IS OF BULK AT MOST 1048576: true; the input reads as it did. -/
def rowBackUptoRow : OpenClaim := { program := "ytaelcebfepbckaa", sum := "bb43aa2367a4d02dacbc948ccfd547ca6abd0d3a4328bf340449e76f45f96dee", func := "damask/damaskkeep.RowBack", spec := "rowBack", apart := false, narrowed := true }
def RowBackUptoSaid : Prop := rowBackUptoRow.holds Try.pinned (OpenSpec.upto rowBackSpec)

/-- 'damaskkeep.RowSelect', WHERE WHAT IT READS IS OF BULK AT MOST 1048576: true; the input reads as it did. -/
def rowSelectUptoRow : OpenClaim := { program := "ytaelcebfepbckaa", sum := "bb43aa2367a4d02dacbc948ccfd547ca6abd0d3a4328bf340449e76f45f96dee", func := "damask/damaskkeep.RowSelect", spec := "rowSelect", apart := false, narrowed := true }
def RowSelectUptoSaid : Prop := rowSelectUptoRow.holds Try.pinned (OpenSpec.upto rowSelectSpec)

/-- 'damaskkeep.TopGreatest', WHERE WHAT IT READS IS OF BULK AT MOST 1048576: true; the input reads as it did. -/
def topGreatestUptoRow : OpenClaim := { program := "ytaelcebfepbckaa", sum := "bb43aa2367a4d02dacbc948ccfd547ca6abd0d3a4328bf340449e76f45f96dee", func := "damask/damaskkeep.TopGreatest", spec := "topGreatest", unfollowed := true, recurses := true, apart := false, narrowed := true }
def TopGreatestUptoSaid : Prop := topGreatestUptoRow.holds Try.pinned (OpenSpec.upto topGreatestSpec)

/-- 'damaskkeep.TopSplit', WHERE WHAT IT READS IS OF BULK AT MOST 1048576: true; the input reads as it did. -/
def topSplitUptoRow : OpenClaim := { program := "ytaelcebfepbckaa", sum := "bb43aa2367a4d02dacbc948ccfd547ca6abd0d3a4328bf340449e76f45f96dee", func := "damask/damaskkeep.TopSplit", spec := "topSplit", unfollowed := true, recurses := true, apart := false, narrowed := true }
def TopSplitUptoSaid : Prop := topSplitUptoRow.holds Try.pinned (OpenSpec.upto topSplitSpec)

/-- 'damaskkeep.TreeMeets', WHERE WHAT IT READS IS OF BULK AT MOST 1048576: true; the input reads as it did. -/
def treeMeetsUptoRow : OpenClaim := { program := "ytaelcebfepbckaa", sum := "bb43aa2367a4d02dacbc948ccfd547ca6abd0d3a4328bf340449e76f45f96dee", func := "damask/damaskkeep.TreeMeets", spec := "treeMeets", unfollowed := true, recurses := true, apart := false, narrowed := true }
def TreeMeetsUptoSaid : Prop := treeMeetsUptoRow.holds Try.pinned (OpenSpec.upto treeMeetsSpec)

/-- 'damaskkeep.SegTold', WHERE WHAT IT READS IS OF BULK AT MOST 1048576: true; the input reads as it did. -/
def segToldUptoRow : OpenClaim := { program := "ytaelcebfepbckaa", sum := "bb43aa2367a4d02dacbc948ccfd547ca6abd0d3a4328bf340449e76f45f96dee", func := "damask/damaskkeep.SegTold", spec := "segTold", unfollowed := true, recurses := true, apart := false, narrowed := true }
def SegToldUptoSaid : Prop := segToldUptoRow.holds Try.pinned (OpenSpec.upto segToldSpec)

/-- 'damaskkeep.SegSplit', WHERE WHAT IT READS IS OF BULK AT MOST 1048576: true; the input reads as it did. -/
def segSplitUptoRow : OpenClaim := { program := "ytaelcebfepbckaa", sum := "bb43aa2367a4d02dacbc948ccfd547ca6abd0d3a4328bf340449e76f45f96dee", func := "damask/damaskkeep.SegSplit", spec := "segSplit", unfollowed := true, recurses := true, apart := false, narrowed := true }
def SegSplitUptoSaid : Prop := segSplitUptoRow.holds Try.pinned (OpenSpec.upto segSplitSpec)

end Rows
end Go.Proofs.Ytaelcebfepbckaa

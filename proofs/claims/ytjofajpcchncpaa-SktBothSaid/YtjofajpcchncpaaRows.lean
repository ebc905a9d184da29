/-
  No cell of these rows narrows 'for every input' (looked for: loops, veiled, ifaces, maps, wideKeys, modest, calm, conditions, laid).
  DERIVED. THE GIVEN ROWS OF THIS SEAT. 12 by the template 'for every input the law returns true; each argument reads behind the call as it read before'; 0 by the template 'total and deterministic' (their statements: YtjofajpcchncpaaTotals.lean).
  GIVEN WITH THE SEED: the statements are not yours to turn. If you find one false, say at which input.
  Laid BY PROGRAM, IN A SANDBOX (cutbox-rows.mjs): the forced cells as the released guide's own fill.sh prints them over the translation ba86cf1bc30b26cb… (all of the seat's roots in one cut). By AI agents, Wed Nov 11 2026. No macro, syntax, notation, axiom, sorry.
-/
import Derived.Test.YtjofajpcchncpaaChecked
import GoSem.Claim
import GoSem.ClaimJoined
import GoSem.ClaimMapViews
import Derived.JoinedTies
import Derived.KernelRfl
namespace Go.Proofs.Ytjofajpcchncpaa
/- THE CELL 'sum', in the pinned program and in every row, IS THE sha256 OF THE DUMP (.gsa) THAT YtjofajpcchncpaaProg.lean LOADS. Nothing in Lean hashes anything: it is a label: what it is worth is what the hold of that sum in a sandbox is worth. -/
noncomputable def Try.pinned : Pinned := { name := "ytjofajpcchncpaa", sum := "ba86cf1bc30b26cb4761dd310e92b37d5c25d99c552e5704133acec4be9b192b", checked := Try.checked }
namespace Rows
def none {H : Type} : Left H := { results := [], args := [] }

/-- 'damaskkeep.PermCounted': WHATEVER THE INPUT: true; the input reads as it did. -/
def permCountedSpec : ChangeSpec := { name := "permCounted", fn := fun _ => fun
  | [d1, d2, d3, d4] => { results := [.lit (.bool true)], args := [d1, d2, d3, d4] }
  | _ => none }
def permCountedRow : OpenClaim := { program := "ytjofajpcchncpaa", sum := "ba86cf1bc30b26cb4761dd310e92b37d5c25d99c552e5704133acec4be9b192b", func := "damask/damaskkeep.PermCounted", spec := "permCounted", apart := false }
def PermCountedSaid : Prop := permCountedRow.holds Try.pinned (OpenSpec.ofChange permCountedSpec)

/-- ITS FALSE NEIGHBOUR: 'it returns false'. Refute it at one input. -/
def permCountedWrong : ChangeSpec := { name := "permCounted", fn := fun _ => fun
  | [d1, d2, d3, d4] => { results := [.lit (.bool false)], args := [d1, d2, d3, d4] }
  | _ => none }
def PermCountedWrongFalsely : Prop := permCountedRow.holds Try.pinned (OpenSpec.ofChange permCountedWrong)

/-- 'damaskkeep.PermSign': WHATEVER THE INPUT: true; the input reads as it did. -/
def permSignSpec : ChangeSpec := { name := "permSign", fn := fun _ => fun
  | [d1, d2, d3] => { results := [.lit (.bool true)], args := [d1, d2, d3] }
  | _ => none }
def permSignRow : OpenClaim := { program := "ytjofajpcchncpaa", sum := "ba86cf1bc30b26cb4761dd310e92b37d5c25d99c552e5704133acec4be9b192b", func := "damask/damaskkeep.PermSign", spec := "permSign", recurses := true, apart := false }
def PermSignSaid : Prop := permSignRow.holds Try.pinned (OpenSpec.ofChange permSignSpec)

/-- ITS FALSE NEIGHBOUR: 'it returns false'. Refute it at one input. -/
def permSignWrong : ChangeSpec := { name := "permSign", fn := fun _ => fun
  | [d1, d2, d3] => { results := [.lit (.bool false)], args := [d1, d2, d3] }
  | _ => none }
def PermSignWrongFalsely : Prop := permSignRow.holds Try.pinned (OpenSpec.ofChange permSignWrong)

/-- 'damaskkeep.FenUndone': WHATEVER THE INPUT: true; the input reads as it did. -/
def fenUndoneSpec : ChangeSpec := { name := "fenUndone", fn := fun _ => fun
  | [d1, d2, d3, d4, d5] => { results := [.lit (.bool true)], args := [d1, d2, d3, d4, d5] }
  | _ => none }
def fenUndoneRow : OpenClaim := { program := "ytjofajpcchncpaa", sum := "ba86cf1bc30b26cb4761dd310e92b37d5c25d99c552e5704133acec4be9b192b", func := "damask/damaskkeep.FenUndone", spec := "fenUndone", unfollowed := true, recurses := true, apart := false }
def FenUndoneSaid : Prop := fenUndoneRow.holds Try.pinned (OpenSpec.ofChange fenUndoneSpec)

/-- ITS FALSE NEIGHBOUR: 'it returns false'. Refute it at one input. -/
def fenUndoneWrong : ChangeSpec := { name := "fenUndone", fn := fun _ => fun
  | [d1, d2, d3, d4, d5] => { results := [.lit (.bool false)], args := [d1, d2, d3, d4, d5] }
  | _ => none }
def FenUndoneWrongFalsely : Prop := fenUndoneRow.holds Try.pinned (OpenSpec.ofChange fenUndoneWrong)

/-- 'damaskkeep.FenTrue': WHATEVER THE INPUT: true; the input reads as it did. -/
def fenTrueSpec : ChangeSpec := { name := "fenTrue", fn := fun _ => fun
  | [d1, d2, d3] => { results := [.lit (.bool true)], args := [d1, d2, d3] }
  | _ => none }
def fenTrueRow : OpenClaim := { program := "ytjofajpcchncpaa", sum := "ba86cf1bc30b26cb4761dd310e92b37d5c25d99c552e5704133acec4be9b192b", func := "damask/damaskkeep.FenTrue", spec := "fenTrue", unfollowed := true, recurses := true, apart := false }
def FenTrueSaid : Prop := fenTrueRow.holds Try.pinned (OpenSpec.ofChange fenTrueSpec)

/-- ITS FALSE NEIGHBOUR: 'it returns false'. Refute it at one input. -/
def fenTrueWrong : ChangeSpec := { name := "fenTrue", fn := fun _ => fun
  | [d1, d2, d3] => { results := [.lit (.bool false)], args := [d1, d2, d3] }
  | _ => none }
def FenTrueWrongFalsely : Prop := fenTrueRow.holds Try.pinned (OpenSpec.ofChange fenTrueWrong)

/-- 'damaskkeep.FenFound': WHATEVER THE INPUT: true; the input reads as it did. -/
def fenFoundSpec : ChangeSpec := { name := "fenFound", fn := fun _ => fun
  | [d1, d2] => { results := [.lit (.bool true)], args := [d1, d2] }
  | _ => none }
def fenFoundRow : OpenClaim := { program := "ytjofajpcchncpaa", sum := "ba86cf1bc30b26cb4761dd310e92b37d5c25d99c552e5704133acec4be9b192b", func := "damask/damaskkeep.FenFound", spec := "fenFound", unfollowed := true, recurses := true, apart := false }
def FenFoundSaid : Prop := fenFoundRow.holds Try.pinned (OpenSpec.ofChange fenFoundSpec)

/-- ITS FALSE NEIGHBOUR: 'it returns false'. Refute it at one input. -/
def fenFoundWrong : ChangeSpec := { name := "fenFound", fn := fun _ => fun
  | [d1, d2] => { results := [.lit (.bool false)], args := [d1, d2] }
  | _ => none }
def FenFoundWrongFalsely : Prop := fenFoundRow.holds Try.pinned (OpenSpec.ofChange fenFoundWrong)

/-- 'damaskkeep.GamLong': WHATEVER THE INPUT: true; the input reads as it did. -/
def gamLongSpec : ChangeSpec := { name := "gamLong", fn := fun _ => fun
  | [d] => { results := [.lit (.bool true)], args := [d] }
  | _ => none }
def gamLongRow : OpenClaim := { program := "ytjofajpcchncpaa", sum := "ba86cf1bc30b26cb4761dd310e92b37d5c25d99c552e5704133acec4be9b192b", func := "damask/damaskkeep.GamLong", spec := "gamLong", recurses := true, apart := false }
def GamLongSaid : Prop := gamLongRow.holds Try.pinned (OpenSpec.ofChange gamLongSpec)

/-- ITS FALSE NEIGHBOUR: 'it returns false'. Refute it at one input. -/
def gamLongWrong : ChangeSpec := { name := "gamLong", fn := fun _ => fun
  | [d] => { results := [.lit (.bool false)], args := [d] }
  | _ => none }
def GamLongWrongFalsely : Prop := gamLongRow.holds Try.pinned (OpenSpec.ofChange gamLongWrong)

/-- 'damaskkeep.GamPrefix': WHATEVER THE INPUT: true; the input reads as it did. -/
def gamPrefixSpec : ChangeSpec := { name := "gamPrefix", fn := fun _ => fun
  | [d1, d2, d3] => { results := [.lit (.bool true)], args := [d1, d2, d3] }
  | _ => none }
def gamPrefixRow : OpenClaim := { program := "ytjofajpcchncpaa", sum := "ba86cf1bc30b26cb4761dd310e92b37d5c25d99c552e5704133acec4be9b192b", func := "damask/damaskkeep.GamPrefix", spec := "gamPrefix", recurses := true, apart := false }
def GamPrefixSaid : Prop := gamPrefixRow.holds Try.pinned (OpenSpec.ofChange gamPrefixSpec)

/-- ITS FALSE NEIGHBOUR: 'it returns false'. Refute it at one input. -/
def gamPrefixWrong : ChangeSpec := { name := "gamPrefix", fn := fun _ => fun
  | [d1, d2, d3] => { results := [.lit (.bool false)], args := [d1, d2, d3] }
  | _ => none }
def GamPrefixWrongFalsely : Prop := gamPrefixRow.holds Try.pinned (OpenSpec.ofChange gamPrefixWrong)

/-- 'damaskkeep.GamBack': WHATEVER THE INPUT: true; the input reads as it did. -/
def gamBackSpec : ChangeSpec := { name := "gamBack", fn := fun _ => fun
  | [d1, d2] => { results := [.lit (.bool true)], args := [d1, d2] }
  | _ => none }
def gamBackRow : OpenClaim := { program := "ytjofajpcchncpaa", sum := "ba86cf1bc30b26cb4761dd310e92b37d5c25d99c552e5704133acec4be9b192b", func := "damask/damaskkeep.GamBack", spec := "gamBack", recurses := true, apart := false }
def GamBackSaid : Prop := gamBackRow.holds Try.pinned (OpenSpec.ofChange gamBackSpec)

/-- ITS FALSE NEIGHBOUR: 'it returns false'. Refute it at one input. -/
def gamBackWrong : ChangeSpec := { name := "gamBack", fn := fun _ => fun
  | [d1, d2] => { results := [.lit (.bool false)], args := [d1, d2] }
  | _ => none }
def GamBackWrongFalsely : Prop := gamBackRow.holds Try.pinned (OpenSpec.ofChange gamBackWrong)

/-- 'damaskkeep.SktBoth': WHATEVER THE INPUT: true; the input reads as it did. -/
def sktBothSpec : ChangeSpec := { name := "sktBoth", fn := fun _ => fun
  | [d1, d2, d3, d4] => { results := [.lit (.bool true)], args := [d1, d2, d3, d4] }
  | _ => none }
def sktBothRow : OpenClaim := { program := "ytjofajpcchncpaa", sum := "ba86cf1bc30b26cb4761dd310e92b37d5c25d99c552e5704133acec4be9b192b", func := "damask/damaskkeep.SktBoth", spec := "sktBoth", unfollowed := true, recurses := true, apart := false }
def SktBothSaid : Prop := sktBothRow.holds Try.pinned (OpenSpec.ofChange sktBothSpec)

/-- ITS FALSE NEIGHBOUR: 'it returns false'. Refute it at one input. -/
def sktBothWrong : ChangeSpec := { name := "sktBoth", fn := fun _ => fun
  | [d1, d2, d3, d4] => { results := [.lit (.bool false)], args := [d1, d2, d3, d4] }
  | _ => none }
def SktBothWrongFalsely : Prop := sktBothRow.holds Try.pinned (OpenSpec.ofChange sktBothWrong)

/-- 'damaskkeep.PackWide': WHATEVER THE INPUT: true; the input reads as it did. -/
def packWideSpec : ChangeSpec := { name := "packWide", fn := fun _ => fun
  | [d1, d2] => { results := [.lit (.bool true)], args := [d1, d2] }
  | _ => none }
def packWideRow : OpenClaim := { program := "ytjofajpcchncpaa", sum := "ba86cf1bc30b26cb4761dd310e92b37d5c25d99c552e5704133acec4be9b192b", func := "damask/damaskkeep.PackWide", spec := "packWide", apart := false }
def PackWideSaid : Prop := packWideRow.holds Try.pinned (OpenSpec.ofChange packWideSpec)

/-- ITS FALSE NEIGHBOUR: 'it returns false'. Refute it at one input. -/
def packWideWrong : ChangeSpec := { name := "packWide", fn := fun _ => fun
  | [d1, d2] => { results := [.lit (.bool false)], args := [d1, d2] }
  | _ => none }
def PackWideWrongFalsely : Prop := packWideRow.holds Try.pinned (OpenSpec.ofChange packWideWrong)

/-- 'damaskkeep.LisDilworth': WHATEVER THE INPUT: true; the input reads as it did. -/
def lisDilworthSpec : ChangeSpec := { name := "lisDilworth", fn := fun _ => fun
  | [d1, d2] => { results := [.lit (.bool true)], args := [d1, d2] }
  | _ => none }
def lisDilworthRow : OpenClaim := { program := "ytjofajpcchncpaa", sum := "ba86cf1bc30b26cb4761dd310e92b37d5c25d99c552e5704133acec4be9b192b", func := "damask/damaskkeep.LisDilworth", spec := "lisDilworth", unfollowed := true, recurses := true, apart := false }
def LisDilworthSaid : Prop := lisDilworthRow.holds Try.pinned (OpenSpec.ofChange lisDilworthSpec)

/-- ITS FALSE NEIGHBOUR: 'it returns false'. Refute it at one input. -/
def lisDilworthWrong : ChangeSpec := { name := "lisDilworth", fn := fun _ => fun
  | [d1, d2] => { results := [.lit (.bool false)], args := [d1, d2] }
  | _ => none }
def LisDilworthWrongFalsely : Prop := lisDilworthRow.holds Try.pinned (OpenSpec.ofChange lisDilworthWrong)

/-- 'damaskkeep.LisSzekeres': WHATEVER THE INPUT: true; the input reads as it did. -/
def lisSzekeresSpec : ChangeSpec := { name := "lisSzekeres", fn := fun _ => fun
  | [d1, d2] => { results := [.lit (.bool true)], args := [d1, d2] }
  | _ => none }
def lisSzekeresRow : OpenClaim := { program := "ytjofajpcchncpaa", sum := "ba86cf1bc30b26cb4761dd310e92b37d5c25d99c552e5704133acec4be9b192b", func := "damask/damaskkeep.LisSzekeres", spec := "lisSzekeres", unfollowed := true, recurses := true, apart := false }
def LisSzekeresSaid : Prop := lisSzekeresRow.holds Try.pinned (OpenSpec.ofChange lisSzekeresSpec)

/-- ITS FALSE NEIGHBOUR: 'it returns false'. Refute it at one input. -/
def lisSzekeresWrong : ChangeSpec := { name := "lisSzekeres", fn := fun _ => fun
  | [d1, d2] => { results := [.lit (.bool false)], args := [d1, d2] }
  | _ => none }
def LisSzekeresWrongFalsely : Prop := lisSzekeresRow.holds Try.pinned (OpenSpec.ofChange lisSzekeresWrong)

/- THE SECOND FORM. 'bulk': how many values and letters a reading holds, each counted each time it is reached (what is shared counts as often as it is met; a slice's spare places count too). A statement '..UptoSaid' is the law's where the arguments, and the package variables that the reading takes, are together of bulk at most 1048576: NARROWER than '..Said'. Prove '..Said' where nothing that the law and all that it calls make is longer than what came in: it says more and counts as full. Else prove '..UptoSaid'. A law counts once. -/
mutual
def uptoBulk {H : Type} : DataW H → Nat
  | .lit (.string bytes) => bytes.length + 1
  | .lit _ => 1
  | .nil => 1
  | .ptr d => uptoBulk d + 1
  | .slice elems spare => uptoBulkAll elems + uptoBulkAll spare + 1
  | .agg parts => uptoBulkAll parts + 1
  | .iface _ d => uptoBulk d + 1
  | .map entries => uptoBulkEntries entries + 1
  | .held _ => 1
def uptoBulkAll {H : Type} : List (DataW H) → Nat
  | [] => 0
  | d :: r => uptoBulk d + uptoBulkAll r
def uptoBulkEntries {H : Type} : List (Lit × DataW H) → Nat
  | [] => 0
  | x :: r => uptoBulkEntry x + uptoBulkEntries r
def uptoBulkEntry {H : Type} : Lit × DataW H → Nat
  | (.string bytes, d) => bytes.length + uptoBulk d + 1
  | (_, d) => uptoBulk d + 1
 end
def uptoSmall : (H : Type) → List (DataW H) → Bool := fun _ ds => decide (uptoBulkAll ds ≤ 1048576)
def OpenSpec.upto (s : _root_.Go.ChangeSpec) : _root_.Go.OpenSpec := { _root_.Go.OpenSpec.ofChange s with cond := some uptoSmall }

/-- 'damaskkeep.PermCounted', WHERE WHAT IT READS IS OF BULK AT MOST 1048576: true; the input reads as it did. -/
def permCountedUptoRow : OpenClaim := { program := "ytjofajpcchncpaa", sum := "ba86cf1bc30b26cb4761dd310e92b37d5c25d99c552e5704133acec4be9b192b", func := "damask/damaskkeep.PermCounted", spec := "permCounted", apart := false, narrowed := true }
def PermCountedUptoSaid : Prop := permCountedUptoRow.holds Try.pinned (OpenSpec.upto permCountedSpec)

/-- 'damaskkeep.PermSign', WHERE WHAT IT READS IS OF BULK AT MOST 1048576: true; the input reads as it did. -/
def permSignUptoRow : OpenClaim := { program := "ytjofajpcchncpaa", sum := "ba86cf1bc30b26cb4761dd310e92b37d5c25d99c552e5704133acec4be9b192b", func := "damask/damaskkeep.PermSign", spec := "permSign", recurses := true, apart := false, narrowed := true }
def PermSignUptoSaid : Prop := permSignUptoRow.holds Try.pinned (OpenSpec.upto permSignSpec)

/-- 'damaskkeep.FenUndone', WHERE WHAT IT READS IS OF BULK AT MOST 1048576: true; the input reads as it did. -/
def fenUndoneUptoRow : OpenClaim := { program := "ytjofajpcchncpaa", sum := "ba86cf1bc30b26cb4761dd310e92b37d5c25d99c552e5704133acec4be9b192b", func := "damask/damaskkeep.FenUndone", spec := "fenUndone", unfollowed := true, recurses := true, apart := false, narrowed := true }
def FenUndoneUptoSaid : Prop := fenUndoneUptoRow.holds Try.pinned (OpenSpec.upto fenUndoneSpec)

/-- 'damaskkeep.FenTrue', WHERE WHAT IT READS IS OF BULK AT MOST 1048576: true; the input reads as it did. -/
def fenTrueUptoRow : OpenClaim := { program := "ytjofajpcchncpaa", sum := "ba86cf1bc30b26cb4761dd310e92b37d5c25d99c552e5704133acec4be9b192b", func := "damask/damaskkeep.FenTrue", spec := "fenTrue", unfollowed := true, recurses := true, apart := false, narrowed := true }
def FenTrueUptoSaid : Prop := fenTrueUptoRow.holds Try.pinned (OpenSpec.upto fenTrueSpec)

/-- 'damaskkeep.FenFound', WHERE WHAT IT READS IS OF BULK AT MOST 1048576: true; the input reads as it did. -/
def fenFoundUptoRow : OpenClaim := { program := "ytjofajpcchncpaa", sum := "ba86cf1bc30b26cb4761dd310e92b37d5c25d99c552e5704133acec4be9b192b", func := "damask/damaskkeep.FenFound", spec := "fenFound", unfollowed := true, recurses := true, apart := false, narrowed := true }
def FenFoundUptoSaid : Prop := fenFoundUptoRow.holds Try.pinned (OpenSpec.upto fenFoundSpec)

/-- 'damaskkeep.GamLong', WHERE WHAT IT READS IS OF BULK AT MOST 1048576: true; the input reads as it did. -/
def gamLongUptoRow : OpenClaim := { program := "ytjofajpcchncpaa", sum := "ba86cf1bc30b26cb4761dd310e92b37d5c25d99c552e5704133acec4be9b192b", func := "damask/damaskkeep.GamLong", spec := "gamLong", recurses := true, apart := false, narrowed := true }
def GamLongUptoSaid : Prop := gamLongUptoRow.holds Try.pinned (OpenSpec.upto gamLongSpec)

/-- 'damaskkeep.GamPrefix', WHERE WHAT IT READS IS OF BULK AT MOST 1048576: true; the input reads as it did. -/
def gamPrefixUptoRow : OpenClaim := { program := "ytjofajpcchncpaa", sum := "ba86cf1bc30b26cb4761dd310e92b37d5c25d99c552e5704133acec4be9b192b", func := "damask/damaskkeep.GamPrefix", spec := "gamPrefix", recurses := true, apart := false, narrowed := true }
def GamPrefixUptoSaid : Prop := gamPrefixUptoRow.holds Try.pinned (OpenSpec.upto gamPrefixSpec)

/-- 'damaskkeep.GamBack', WHERE WHAT IT READS IS OF BULK AT MOST 1048576: true; the input reads as it did. -/
def gamBackUptoRow : OpenClaim := { program := "ytjofajpcchncpaa", sum := "ba86cf1bc30b26cb4761dd310e92b37d5c25d99c552e5704133acec4be9b192b", func := "damask/damaskkeep.GamBack", spec := "gamBack", recurses := true, apart := false, narrowed := true }
def GamBackUptoSaid : Prop := gamBackUptoRow.holds Try.pinned (OpenSpec.upto gamBackSpec)

/-- 'damaskkeep.SktBoth', WHERE WHAT IT READS IS OF BULK AT MOST 1048576: true; the input reads as it did. -/
def sktBothUptoRow : OpenClaim := { program := "ytjofajpcchncpaa", sum := "ba86cf1bc30b26cb4761dd310e92b37d5c25d99c552e5704133acec4be9b192b", func := "damask/damaskkeep.SktBoth", spec := "sktBoth", unfollowed := true, recurses := true, apart := false, narrowed := true }
def SktBothUptoSaid : Prop := sktBothUptoRow.holds Try.pinned (OpenSpec.upto sktBothSpec)

/-- 'damaskkeep.PackWide', WHERE WHAT IT READS IS OF BULK AT MOST 1048576: true; the input reads as it did. -/
def packWideUptoRow : OpenClaim := { program := "ytjofajpcchncpaa", sum := "ba86cf1bc30b26cb4761dd310e92b37d5c25d99c552e5704133acec4be9b192b", func := "damask/damaskkeep.PackWide", spec := "packWide", apart := false, narrowed := true }
def PackWideUptoSaid : Prop := packWideUptoRow.holds Try.pinned (OpenSpec.upto packWideSpec)

/-- 'damaskkeep.LisDilworth', WHERE WHAT IT READS IS OF BULK AT MOST 1048576: true; the input reads as it did. -/
def lisDilworthUptoRow : OpenClaim := { program := "ytjofajpcchncpaa", sum := "ba86cf1bc30b26cb4761dd310e92b37d5c25d99c552e5704133acec4be9b192b", func := "damask/damaskkeep.LisDilworth", spec := "lisDilworth", unfollowed := true, recurses := true, apart := false, narrowed := true }
def LisDilworthUptoSaid : Prop := lisDilworthUptoRow.holds Try.pinned (OpenSpec.upto lisDilworthSpec)

/-- 'damaskkeep.LisSzekeres', WHERE WHAT IT READS IS OF BULK AT MOST 1048576: true; the input reads as it did. -/
def lisSzekeresUptoRow : OpenClaim := { program := "ytjofajpcchncpaa", sum := "ba86cf1bc30b26cb4761dd310e92b37d5c25d99c552e5704133acec4be9b192b", func := "damask/damaskkeep.LisSzekeres", spec := "lisSzekeres", unfollowed := true, recurses := true, apart := false, narrowed := true }
def LisSzekeresUptoSaid : Prop := lisSzekeresUptoRow.holds Try.pinned (OpenSpec.upto lisSzekeresSpec)

end Rows
end Go.Proofs.Ytjofajpcchncpaa

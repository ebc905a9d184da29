/-
  No cell of these rows narrows 'for every input' (looked for: loops, veiled, ifaces, maps, wideKeys, modest, calm, conditions, laid).
  DERIVED. THE GIVEN ROWS OF THIS SEAT. 12 by the template 'for every input the law returns true; each argument reads behind the call as it read before'; 0 by the template 'total and deterministic' (their statements: YtjicgndahpffbaaTotals.lean).
  GIVEN WITH THE SEED: the statements are not yours to turn. If you find one false, say at which input.
  Laid BY PROGRAM, IN A SANDBOX (cutbox-rows.mjs): the forced cells as the released guide's own fill.sh prints them over the translation 6c609463a5644ab2… (all of the seat's roots in one cut). By AI agents, Wed Nov 11 2026. No macro, syntax, notation, axiom, sorry.
-/
import Derived.Test.YtjicgndahpffbaaChecked
import GoSem.Claim
import GoSem.ClaimJoined
import GoSem.ClaimMapViews
import Derived.JoinedTies
import Derived.KernelRfl
namespace Go.Proofs.Ytjicgndahpffbaa
/- THE CELL 'sum', in the pinned program and in every row, IS THE sha256 OF THE DUMP (.gsa) THAT YtjicgndahpffbaaProg.lean LOADS. Nothing in Lean hashes anything: it is a label: what it is worth is what the hold of that sum in a sandbox is worth. -/
noncomputable def Try.pinned : Pinned := { name := "ytjicgndahpffbaa", sum := "6c609463a5644ab2344d7713a8abe95c34a157ce5aa7325c24c73175eedc7de2", checked := Try.checked }
namespace Rows
def none {H : Type} : Left H := { results := [], args := [] }

/-- 'damaskkeep.WaveBack': WHATEVER THE INPUT: true; the input reads as it did. -/
def waveBackSpec : ChangeSpec := { name := "waveBack", fn := fun _ => fun
  | [d1, d2] => { results := [.lit (.bool true)], args := [d1, d2] }
  | _ => none }
def waveBackRow : OpenClaim := { program := "ytjicgndahpffbaa", sum := "6c609463a5644ab2344d7713a8abe95c34a157ce5aa7325c24c73175eedc7de2", func := "damask/damaskkeep.WaveBack", spec := "waveBack", apart := false }
def WaveBackSaid : Prop := waveBackRow.holds Try.pinned (OpenSpec.ofChange waveBackSpec)

/-- ITS FALSE NEIGHBOUR: 'it returns false'. Refute it at one input. -/
def waveBackWrong : ChangeSpec := { name := "waveBack", fn := fun _ => fun
  | [d1, d2] => { results := [.lit (.bool false)], args := [d1, d2] }
  | _ => none }
def WaveBackWrongFalsely : Prop := waveBackRow.holds Try.pinned (OpenSpec.ofChange waveBackWrong)

/-- 'damaskkeep.WaveSplit': WHATEVER THE INPUT: true; the input reads as it did. -/
def waveSplitSpec : ChangeSpec := { name := "waveSplit", fn := fun _ => fun
  | [d1, d2, d3, d4, d5, d6] => { results := [.lit (.bool true)], args := [d1, d2, d3, d4, d5, d6] }
  | _ => none }
def waveSplitRow : OpenClaim := { program := "ytjicgndahpffbaa", sum := "6c609463a5644ab2344d7713a8abe95c34a157ce5aa7325c24c73175eedc7de2", func := "damask/damaskkeep.WaveSplit", spec := "waveSplit", apart := false }
def WaveSplitSaid : Prop := waveSplitRow.holds Try.pinned (OpenSpec.ofChange waveSplitSpec)

/-- ITS FALSE NEIGHBOUR: 'it returns false'. Refute it at one input. -/
def waveSplitWrong : ChangeSpec := { name := "waveSplit", fn := fun _ => fun
  | [d1, d2, d3, d4, d5, d6] => { results := [.lit (.bool false)], args := [d1, d2, d3, d4, d5, d6] }
  | _ => none }
def WaveSplitWrongFalsely : Prop := waveSplitRow.holds Try.pinned (OpenSpec.ofChange waveSplitWrong)

/-- 'damaskkeep.WaveSorts': WHATEVER THE INPUT: true; the input reads as it did. -/
def waveSortsSpec : ChangeSpec := { name := "waveSorts", fn := fun _ => fun
  | [d1, d2, d3, d4] => { results := [.lit (.bool true)], args := [d1, d2, d3, d4] }
  | _ => none }
def waveSortsRow : OpenClaim := { program := "ytjicgndahpffbaa", sum := "6c609463a5644ab2344d7713a8abe95c34a157ce5aa7325c24c73175eedc7de2", func := "damask/damaskkeep.WaveSorts", spec := "waveSorts", apart := false }
def WaveSortsSaid : Prop := waveSortsRow.holds Try.pinned (OpenSpec.ofChange waveSortsSpec)

/-- ITS FALSE NEIGHBOUR: 'it returns false'. Refute it at one input. -/
def waveSortsWrong : ChangeSpec := { name := "waveSorts", fn := fun _ => fun
  | [d1, d2, d3, d4] => { results := [.lit (.bool false)], args := [d1, d2, d3, d4] }
  | _ => none }
def WaveSortsWrongFalsely : Prop := waveSortsRow.holds Try.pinned (OpenSpec.ofChange waveSortsWrong)

/-- 'damaskkeep.FanoBack': WHATEVER THE INPUT: true; the input reads as it did. -/
def fanoBackSpec : ChangeSpec := { name := "fanoBack", fn := fun _ => fun
  | [d1, d2, d3] => { results := [.lit (.bool true)], args := [d1, d2, d3] }
  | _ => none }
def fanoBackRow : OpenClaim := { program := "ytjicgndahpffbaa", sum := "6c609463a5644ab2344d7713a8abe95c34a157ce5aa7325c24c73175eedc7de2", func := "damask/damaskkeep.FanoBack", spec := "fanoBack", apart := false }
def FanoBackSaid : Prop := fanoBackRow.holds Try.pinned (OpenSpec.ofChange fanoBackSpec)

/-- ITS FALSE NEIGHBOUR: 'it returns false'. Refute it at one input. -/
def fanoBackWrong : ChangeSpec := { name := "fanoBack", fn := fun _ => fun
  | [d1, d2, d3] => { results := [.lit (.bool false)], args := [d1, d2, d3] }
  | _ => none }
def FanoBackWrongFalsely : Prop := fanoBackRow.holds Try.pinned (OpenSpec.ofChange fanoBackWrong)

/-- 'damaskkeep.FanoFinds': WHATEVER THE INPUT: true; the input reads as it did. -/
def fanoFindsSpec : ChangeSpec := { name := "fanoFinds", fn := fun _ => fun
  | [d1, d2, d3] => { results := [.lit (.bool true)], args := [d1, d2, d3] }
  | _ => none }
def fanoFindsRow : OpenClaim := { program := "ytjicgndahpffbaa", sum := "6c609463a5644ab2344d7713a8abe95c34a157ce5aa7325c24c73175eedc7de2", func := "damask/damaskkeep.FanoFinds", spec := "fanoFinds", unfollowed := true, recurses := true, apart := false }
def FanoFindsSaid : Prop := fanoFindsRow.holds Try.pinned (OpenSpec.ofChange fanoFindsSpec)

/-- ITS FALSE NEIGHBOUR: 'it returns false'. Refute it at one input. -/
def fanoFindsWrong : ChangeSpec := { name := "fanoFinds", fn := fun _ => fun
  | [d1, d2, d3] => { results := [.lit (.bool false)], args := [d1, d2, d3] }
  | _ => none }
def FanoFindsWrongFalsely : Prop := fanoFindsRow.holds Try.pinned (OpenSpec.ofChange fanoFindsWrong)

/-- 'damaskkeep.ImageBack': WHATEVER THE INPUT: true; the input reads as it did. -/
def imageBackSpec : ChangeSpec := { name := "imageBack", fn := fun _ => fun
  | [d1, d2, d3] => { results := [.lit (.bool true)], args := [d1, d2, d3] }
  | _ => none }
def imageBackRow : OpenClaim := { program := "ytjicgndahpffbaa", sum := "6c609463a5644ab2344d7713a8abe95c34a157ce5aa7325c24c73175eedc7de2", func := "damask/damaskkeep.ImageBack", spec := "imageBack", unfollowed := true, recurses := true, apart := false }
def ImageBackSaid : Prop := imageBackRow.holds Try.pinned (OpenSpec.ofChange imageBackSpec)

/-- ITS FALSE NEIGHBOUR: 'it returns false'. Refute it at one input. -/
def imageBackWrong : ChangeSpec := { name := "imageBack", fn := fun _ => fun
  | [d1, d2, d3] => { results := [.lit (.bool false)], args := [d1, d2, d3] }
  | _ => none }
def ImageBackWrongFalsely : Prop := imageBackRow.holds Try.pinned (OpenSpec.ofChange imageBackWrong)

/-- 'damaskkeep.ImageFixed': WHATEVER THE INPUT: true; the input reads as it did. -/
def imageFixedSpec : ChangeSpec := { name := "imageFixed", fn := fun _ => fun
  | [d] => { results := [.lit (.bool true)], args := [d] }
  | _ => none }
def imageFixedRow : OpenClaim := { program := "ytjicgndahpffbaa", sum := "6c609463a5644ab2344d7713a8abe95c34a157ce5aa7325c24c73175eedc7de2", func := "damask/damaskkeep.ImageFixed", spec := "imageFixed", unfollowed := true, recurses := true, apart := false }
def ImageFixedSaid : Prop := imageFixedRow.holds Try.pinned (OpenSpec.ofChange imageFixedSpec)

/-- ITS FALSE NEIGHBOUR: 'it returns false'. Refute it at one input. -/
def imageFixedWrong : ChangeSpec := { name := "imageFixed", fn := fun _ => fun
  | [d] => { results := [.lit (.bool false)], args := [d] }
  | _ => none }
def ImageFixedWrongFalsely : Prop := imageFixedRow.holds Try.pinned (OpenSpec.ofChange imageFixedWrong)

/-- 'damaskkeep.RanksTrue': WHATEVER THE INPUT: true; the input reads as it did. -/
def ranksTrueSpec : ChangeSpec := { name := "ranksTrue", fn := fun _ => fun
  | [d1, d2] => { results := [.lit (.bool true)], args := [d1, d2] }
  | _ => none }
def ranksTrueRow : OpenClaim := { program := "ytjicgndahpffbaa", sum := "6c609463a5644ab2344d7713a8abe95c34a157ce5aa7325c24c73175eedc7de2", func := "damask/damaskkeep.RanksTrue", spec := "ranksTrue", unfollowed := true, recurses := true, apart := false }
def RanksTrueSaid : Prop := ranksTrueRow.holds Try.pinned (OpenSpec.ofChange ranksTrueSpec)

/-- ITS FALSE NEIGHBOUR: 'it returns false'. Refute it at one input. -/
def ranksTrueWrong : ChangeSpec := { name := "ranksTrue", fn := fun _ => fun
  | [d1, d2] => { results := [.lit (.bool false)], args := [d1, d2] }
  | _ => none }
def RanksTrueWrongFalsely : Prop := ranksTrueRow.holds Try.pinned (OpenSpec.ofChange ranksTrueWrong)

/-- 'damaskkeep.ParenBack': WHATEVER THE INPUT: true; the input reads as it did. -/
def parenBackSpec : ChangeSpec := { name := "parenBack", fn := fun _ => fun
  | [d] => { results := [.lit (.bool true)], args := [d] }
  | _ => none }
def parenBackRow : OpenClaim := { program := "ytjicgndahpffbaa", sum := "6c609463a5644ab2344d7713a8abe95c34a157ce5aa7325c24c73175eedc7de2", func := "damask/damaskkeep.ParenBack", spec := "parenBack", inPlace := ["internal/abi.NoEscape", "internal/bytealg.MakeNoZero"], apart := false }
def ParenBackSaid : Prop := parenBackRow.holds Try.pinned (OpenSpec.ofChange parenBackSpec)

/-- ITS FALSE NEIGHBOUR: 'it returns false'. Refute it at one input. -/
def parenBackWrong : ChangeSpec := { name := "parenBack", fn := fun _ => fun
  | [d] => { results := [.lit (.bool false)], args := [d] }
  | _ => none }
def ParenBackWrongFalsely : Prop := parenBackRow.holds Try.pinned (OpenSpec.ofChange parenBackWrong)

/-- 'damaskkeep.PersCheap': WHATEVER THE INPUT: true; the input reads as it did. -/
def persCheapSpec : ChangeSpec := { name := "persCheap", fn := fun _ => fun
  | [d1, d2] => { results := [.lit (.bool true)], args := [d1, d2] }
  | _ => none }
def persCheapRow : OpenClaim := { program := "ytjicgndahpffbaa", sum := "6c609463a5644ab2344d7713a8abe95c34a157ce5aa7325c24c73175eedc7de2", func := "damask/damaskkeep.PersCheap", spec := "persCheap", unfollowed := true, recurses := true, apart := false }
def PersCheapSaid : Prop := persCheapRow.holds Try.pinned (OpenSpec.ofChange persCheapSpec)

/-- ITS FALSE NEIGHBOUR: 'it returns false'. Refute it at one input. -/
def persCheapWrong : ChangeSpec := { name := "persCheap", fn := fun _ => fun
  | [d1, d2] => { results := [.lit (.bool false)], args := [d1, d2] }
  | _ => none }
def PersCheapWrongFalsely : Prop := persCheapRow.holds Try.pinned (OpenSpec.ofChange persCheapWrong)

/-- 'damasktop.TopVersions': WHATEVER THE INPUT: true; the input reads as it did. -/
def topVersionsSpec : ChangeSpec := { name := "topVersions", fn := fun _ => fun
  | [d1, d2] => { results := [.lit (.bool true)], args := [d1, d2] }
  | _ => none }
def topVersionsRow : OpenClaim := { program := "ytjicgndahpffbaa", sum := "6c609463a5644ab2344d7713a8abe95c34a157ce5aa7325c24c73175eedc7de2", func := "damask/damasktop.TopVersions", spec := "topVersions", unfollowed := true, recurses := true, apart := false }
def TopVersionsSaid : Prop := topVersionsRow.holds Try.pinned (OpenSpec.ofChange topVersionsSpec)

/-- ITS FALSE NEIGHBOUR: 'it returns false'. Refute it at one input. -/
def topVersionsWrong : ChangeSpec := { name := "topVersions", fn := fun _ => fun
  | [d1, d2] => { results := [.lit (.bool false)], args := [d1, d2] }
  | _ => none }
def TopVersionsWrongFalsely : Prop := topVersionsRow.holds Try.pinned (OpenSpec.ofChange topVersionsWrong)

/-- 'damaskkeep.PersStays': WHATEVER THE INPUT: true; the input reads as it did. -/
def persStaysSpec : ChangeSpec := { name := "persStays", fn := fun _ => fun
  | [d1, d2] => { results := [.lit (.bool true)], args := [d1, d2] }
  | _ => none }
def persStaysRow : OpenClaim := { program := "ytjicgndahpffbaa", sum := "6c609463a5644ab2344d7713a8abe95c34a157ce5aa7325c24c73175eedc7de2", func := "damask/damaskkeep.PersStays", spec := "persStays", unfollowed := true, recurses := true, apart := false }
def PersStaysSaid : Prop := persStaysRow.holds Try.pinned (OpenSpec.ofChange persStaysSpec)

/-- ITS FALSE NEIGHBOUR: 'it returns false'. Refute it at one input. -/
def persStaysWrong : ChangeSpec := { name := "persStays", fn := fun _ => fun
  | [d1, d2] => { results := [.lit (.bool false)], args := [d1, d2] }
  | _ => none }
def PersStaysWrongFalsely : Prop := persStaysRow.holds Try.pinned (OpenSpec.ofChange persStaysWrong)

/- THE SECOND FORM. 'bulk': how many values and letters a reading holds, each counted each time it is reached (what is shared counts as often as it is met; a slice's spare places count too). A statement '..UptoSaid' is the law's where the arguments, and the package variables that the reading takes, are together of bulk at most 1048576: NARROWER than '..Said'. Prove '..Said' where nothing that the law and all that it calls make is longer than what came in: it says more and counts as full. Else prove '..UptoSaid'. A law counts once. -/
mutual
def uptoBulk {H : Type} : DataW H → Nat
  | .lit (.string bytes) => bytes.length + 1
  | .lit _ => 1
  | .nil => 1
  | .ptr d => uptoBulk d + 1
  | .slice elems spare => uptoBulkAll elems + uptoBulkAll spare + 1
  | .agg parts => uptoBulkAll parts + 1
  | .iface _ d => uptoBulk d + 1
  | .map entries => uptoBulkEntries entries + 1
  | .held _ => 1
def uptoBulkAll {H : Type} : List (DataW H) → Nat
  | [] => 0
  | d :: r => uptoBulk d + uptoBulkAll r
def uptoBulkEntries {H : Type} : List (Lit × DataW H) → Nat
  | [] => 0
  | x :: r => uptoBulkEntry x + uptoBulkEntries r
def uptoBulkEntry {H : Type} : Lit × DataW H → Nat
  | (.string bytes, d) => bytes.length + uptoBulk d + 1
  | (_, d) => uptoBulk d + 1
 end
def uptoSmall : (H : Type) → List (DataW H) → Bool := fun _ ds => decide (uptoBulkAll ds ≤ 1048576)
def OpenSpec.upto (s : _root_.Go.ChangeSpec) : _root_.Go.OpenSpec := { _root_.Go.OpenSpec.ofChange s with cond := some uptoSmall }

/-- 'damaskkeep.WaveBack', WHERE WHAT IT READS IS OF BULK AT MOST 1048576: true; the input reads as it did. -/
def waveBackUptoRow : OpenClaim := { program := "ytjicgndahpffbaa", sum := "6c609463a5644ab2344d7713a8abe95c34a157ce5aa7325c24c73175eedc7de2", func := "damask/damaskkeep.WaveBack", spec := "waveBack", apart := false, narrowed := true }
def WaveBackUptoSaid : Prop := waveBackUptoRow.holds Try.pinned (OpenSpec.upto waveBackSpec)

/-- 'damaskkeep.WaveSplit', WHERE WHAT IT READS IS OF BULK AT MOST 1048576: true; the input reads as it did. -/
def waveSplitUptoRow : OpenClaim := { program := "ytjicgndahpffbaa", sum := "6c609463a5644ab2344d7713a8abe95c34a157ce5aa7325c24c73175eedc7de2", func := "damask/damaskkeep.WaveSplit", spec := "waveSplit", apart := false, narrowed := true }
def WaveSplitUptoSaid : Prop := waveSplitUptoRow.holds Try.pinned (OpenSpec.upto waveSplitSpec)

/-- 'damaskkeep.WaveSorts', WHERE WHAT IT READS IS OF BULK AT MOST 1048576: true; the input reads as it did. -/
def waveSortsUptoRow : OpenClaim := { program := "ytjicgndahpffbaa", sum := "6c609463a5644ab2344d7713a8abe95c34a157ce5aa7325c24c73175eedc7de2", func := "damask/damaskkeep.WaveSorts", spec := "waveSorts", apart := false, narrowed := true }
def WaveSortsUptoSaid : Prop := waveSortsUptoRow.holds Try.pinned (OpenSpec.upto waveSortsSpec)

/-- 'damaskkeep.FanoBack', WHERE WHAT IT READS IS OF BULK AT MOST 1048576: true; the input reads as it did. -/
def fanoBackUptoRow : OpenClaim := { program := "ytjicgndahpffbaa", sum := "6c609463a5644ab2344d7713a8abe95c34a157ce5aa7325c24c73175eedc7de2", func := "damask/damaskkeep.FanoBack", spec := "fanoBack", apart := false, narrowed := true }
def FanoBackUptoSaid : Prop := fanoBackUptoRow.holds Try.pinned (OpenSpec.upto fanoBackSpec)

/-- 'damaskkeep.FanoFinds', WHERE WHAT IT READS IS OF BULK AT MOST 1048576: true; the input reads as it did. -/
def fanoFindsUptoRow : OpenClaim := { program := "ytjicgndahpffbaa", sum := "6c609463a5644ab2344d7713a8abe95c34a157ce5aa7325c24c73175eedc7de2", func := "damask/damaskkeep.FanoFinds", spec := "fanoFinds", unfollowed := true, recurses := true, apart := false, narrowed := true }
def FanoFindsUptoSaid : Prop := fanoFindsUptoRow.holds Try.pinned (OpenSpec.upto fanoFindsSpec)

/-- 'damaskkeep.ImageBack', WHERE WHAT IT READS IS OF BULK AT MOST 1048576: true; the input reads as it did. -/
def imageBackUptoRow : OpenClaim := { program := "ytjicgndahpffbaa", sum := "6c609463a5644ab2344d7713a8abe95c34a157ce5aa7325c24c73175eedc7de2", func := "damask/damaskkeep.ImageBack", spec := "imageBack", unfollowed := true, recurses := true, apart := false, narrowed := true }
def ImageBackUptoSaid : Prop := imageBackUptoRow.holds Try.pinned (OpenSpec.upto imageBackSpec)

/-- 'damaskkeep.ImageFixed', WHERE WHAT IT READS IS OF BULK AT MOST 1048576: true; the input reads as it did. -/
def imageFixedUptoRow : OpenClaim := { program := "ytjicgndahpffbaa", sum := "6c609463a5644ab2344d7713a8abe95c34a157ce5aa7325c24c73175eedc7de2", func := "damask/damaskkeep.ImageFixed", spec := "imageFixed", unfollowed := true, recurses := true, apart := false, narrowed := true }
def ImageFixedUptoSaid : Prop := imageFixedUptoRow.holds Try.pinned (OpenSpec.upto imageFixedSpec)

/-- 'damaskkeep.RanksTrue', WHERE WHAT IT READS IS OF BULK AT MOST 1048576: true; the input reads as it did. -/
def ranksTrueUptoRow : OpenClaim := { program := "ytjicgndahpffbaa", sum := "6c609463a5644ab2344d7713a8abe95c34a157ce5aa7325c24c73175eedc7de2", func := "damask/damaskkeep.RanksTrue", spec := "ranksTrue", unfollowed := true, recurses := true, apart := false, narrowed := true }
def RanksTrueUptoSaid : Prop := ranksTrueUptoRow.holds Try.pinned (OpenSpec.upto ranksTrueSpec)

/-- 'damaskkeep.ParenBack', WHERE WHAT IT READS IS OF BULK AT MOST 1048576: true; the input reads as it did. -/
def parenBackUptoRow : OpenClaim := { program := "ytjicgndahpffbaa", sum := "6c609463a5644ab2344d7713a8abe95c34a157ce5aa7325c24c73175eedc7de2", func := "damask/damaskkeep.ParenBack", spec := "parenBack", inPlace := ["internal/abi.NoEscape", "internal/bytealg.MakeNoZero"], apart := false, narrowed := true }
def ParenBackUptoSaid : Prop := parenBackUptoRow.holds Try.pinned (OpenSpec.upto parenBackSpec)

/-- 'damaskkeep.PersCheap', WHERE WHAT IT READS IS OF BULK AT MOST 1048576: true; the input reads as it did. -/
def persCheapUptoRow : OpenClaim := { program := "ytjicgndahpffbaa", sum := "6c609463a5644ab2344d7713a8abe95c34a157ce5aa7325c24c73175eedc7de2", func := "damask/damaskkeep.PersCheap", spec := "persCheap", unfollowed := true, recurses := true, apart := false, narrowed := true }
def PersCheapUptoSaid : Prop := persCheapUptoRow.holds Try.pinned (OpenSpec.upto persCheapSpec)

/-- 'damasktop.TopVersions', WHERE WHAT IT READS IS OF BULK AT MOST 1048576: true; the input reads as it did. -/
def topVersionsUptoRow : OpenClaim := { program := "ytjicgndahpffbaa", sum := "6c609463a5644ab2344d7713a8abe95c34a157ce5aa7325c24c73175eedc7de2", func := "damask/damasktop.TopVersions", spec := "topVersions", unfollowed := true, recurses := true, apart := false, narrowed := true }
def TopVersionsUptoSaid : Prop := topVersionsUptoRow.holds Try.pinned (OpenSpec.upto topVersionsSpec)

/-- 'damaskkeep.PersStays', WHERE WHAT IT READS IS OF BULK AT MOST 1048576: true; the input reads as it did. -/
def persStaysUptoRow : OpenClaim := { program := "ytjicgndahpffbaa", sum := "6c609463a5644ab2344d7713a8abe95c34a157ce5aa7325c24c73175eedc7de2", func := "damask/damaskkeep.PersStays", spec := "persStays", unfollowed := true, recurses := true, apart := false, narrowed := true }
def PersStaysUptoSaid : Prop := persStaysUptoRow.holds Try.pinned (OpenSpec.upto persStaysSpec)

end Rows
end Go.Proofs.Ytjicgndahpffbaa

/- Package pack: a number of so many bits, read. -/
import Derived.Test.YtjicgndahpffbaaPack
namespace Go.Proofs.Ytjicgndahpffbaa
set_option linter.unusedVariables false
open Go.RowKit

def wordsN (n wd : Nat) : Nat := (n * wd + 63) / 64
theorem words_any (n wd : Nat) (w : World) (hn : n ≤ 1000) (hw : wd ≤ 62) :
    Calls Try.prog 90 #[.int .i64 n, .int .i64 wd] w (fun e w' => e = .returned (.int .i64 (wordsN n wd : Nat)) ∧ w' = w) := by
  have h1 : n * wd ≤ 1000 * 62 := Nat.mul_le_mul hn hw
  have h2 : (n : Int) * wd = ((n * wd : Nat) : Int) := by push_cast; rfl
  unfold wordsN
  have h3 : IntKind.i64.wrap ((n : Int) * wd) = ((n * wd : Nat) : Int) := by rw [h2]; exact IntWalk.i64_in _ (by omega)
  generalize n * wd = p at *
  go_enter Try.func90, Try.ntmps90
  go_wp2
  go_ret
  refine ⟨?_, rfl⟩
  rw [show ((p : Int) + 64 - 1) / 64 = (((p + 63) / 64 : Nat) : Int) by omega]
  rfl

end Go.Proofs.Ytjicgndahpffbaa

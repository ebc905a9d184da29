/- Rows of the first numbers. -/
import Derived.Test.YtlmdlholmlbcbaaKeep
namespace Go.Proofs.Ytlmdlholmlbcbaa
set_option linter.unusedVariables false
open Go.RowKit

theorem ints_range_succ (k : Nat) : ints ((List.range (k + 1)).map Int.ofNat) = ints ((List.range k).map Int.ofNat) ++ [.int .i64 (k : Int)] := by
  rw [List.range_succ, List.map_append, ints_append]; rfl
theorem own_len' {w : World} {B e size n m c : Nat} {a : Option Addr} {xs : List Value} (h : w.ownsRow B e size (.slice a m c) n xs) (hm : m = n) : w.ownsRow B e size (.slice a n c) n xs := by subst hm; exact h


end Go.Proofs.Ytlmdlholmlbcbaa

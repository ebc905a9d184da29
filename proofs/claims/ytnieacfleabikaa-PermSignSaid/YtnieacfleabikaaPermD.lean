/- Package perm at orders that may be: Inverse, Then, and the law's own 'then'. -/
import Derived.Test.YtnieacfleabikaaPermB
namespace Go.Proofs.Ytnieacfleabikaa
set_option linter.unusedVariables false
open Go.RowKit

def invK (p : List Int) : Nat → List Int
  | 0 => List.replicate p.length 0
  | k + 1 => (invK p k).set (p.getD k 0).toNat (k : Int)
theorem invK_length (p : List Int) (k : Nat) : (invK p k).length = p.length := by
  induction k with
  | zero => simp [invK]
  | succ k ih => simp [invK, ih]
def thenL (p q : List Int) : List Int := p.map fun x => q.getD x.toNat 0
theorem thenL_length (p q : List Int) : (thenL p q).length = p.length := by simp [thenL]

end Go.Proofs.Ytnieacfleabikaa

/- Rows of places of the call's own. -/
import Derived.Test.YtlmdlholmlbcbaaKeep
namespace Go.Proofs.Ytlmdlholmlbcbaa
set_option linter.unusedVariables false
open Go.RowKit

theorem nat_at {w : World} {g c n : Nat} {X : List Nat} {B : Nat} (h : w.ownsRow B 3 1 (.slice (some ⟨g, 0, none⟩) n c) n (ints (X.map Int.ofNat))) (hl : X.length = n) (i : Nat) (hi : i < n) : w.cell? ⟨g, i, none⟩ = some (.int .i64 ((X.getD i 0 : Nat) : Int)) := by
  rw [h.cellAt i (by omega)]
  simp only [ints, List.getElem?_map, List.map_map]
  rw [List.getElem?_eq_getElem (by omega), getD_at _ _ (by omega)]
  rfl
theorem natrow_set (X : List Nat) (i x : Nat) : (ints (X.map Int.ofNat)).set i (.int .i64 (x : Int)) = ints ((X.set i x).map Int.ofNat) := by
  simp [ints, List.map_set]

end Go.Proofs.Ytlmdlholmlbcbaa

/- A cell of a row of the call's own. -/
import Derived.Test.YtdegnnbffehmnaaKeep
namespace Go.Proofs.Ytdegnnbffehmnaa
set_option linter.unusedVariables false
open Go.RowKit

theorem ints_cell {w : World} {B e g n cap k : Nat} {o : List Int} (h : w.ownsRow B e 1 (.slice (some ⟨g, 0, none⟩) n cap) n (ints o)) (hl : o.length = n) (hk : k < n) :
    w.cell? ⟨g, k, none⟩ = some (.int .i64 (o.getD k 0)) := by
  rw [h.cellAt k (by omega), List.getElem?_eq_getElem (by rw [ints_length]; omega), ints_get]
  simp [List.getElem?_eq_getElem (show k < o.length by omega)]


end Go.Proofs.Ytdegnnbffehmnaa

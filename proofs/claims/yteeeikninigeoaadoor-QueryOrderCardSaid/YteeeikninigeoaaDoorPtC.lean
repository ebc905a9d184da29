/- The cells of points, and of places. -/
import Derived.Test.YteeeikninigeoaaDoorPts
namespace Go.Proofs.YteeeikninigeoaaDoor
set_option linter.unusedVariables false
open Go.RowKit

theorem pt_cells {w : World} {a : Option Addr} {n cap : Nat} {L : List Pt} (h : SlF ptL 3 w a n cap L) (i : Nat) (hi : i < n) :
    ∃ b off, a = some ⟨b, off, none⟩ ∧ w.cell? ⟨b, off + i * 3, none⟩ = some (.int .i64 (L.getD i pt0).x) ∧ w.cell? ⟨b, off + i * 3 + 1, none⟩ = some (.int .i64 (L.getD i pt0).y) ∧ w.cell? ⟨b, off + i * 3 + 2, none⟩ = some (.int .i64 (L.getD i pt0).w) := by
  have hl := h.len ptL_len (by omega)
  obtain ⟨b, off, ha, hb, hc⟩ := h.at ptL_len (by omega) i (by omega)
  rw [← getD_at L pt0 (by omega)] at hc
  exact ⟨b, off, ha, hc 0 (by omega), hc 1 (by omega), hc 2 (by omega)⟩
theorem nat_cell {w : World} {a : Option Addr} {n cap : Nat} {R : List Nat} (h : SlI w a cap (R.map Int.ofNat)) (hl : R.length = n) (i : Nat) (hi : i < n) :
    ∃ b off, a = some ⟨b, off, none⟩ ∧ w.cell? ⟨b, off + i, none⟩ = some (.int .i64 ((R.getD i 0 : Nat) : Int)) := by
  obtain ⟨b, off, ha, hc⟩ := h.at i (by rw [List.length_map]; omega)
  refine ⟨b, off, ha, ?_⟩
  rw [hc, getD_at _ _ (by omega), List.getElem_map]; rfl

end Go.Proofs.YteeeikninigeoaaDoor

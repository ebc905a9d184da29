/- Stores into a row of points. -/
import Derived.Test.YtlmdlholmlbcbaaPtC
namespace Go.Proofs.Ytlmdlholmlbcbaa
set_option linter.unusedVariables false
open Go.RowKit

theorem flat_setx : ∀ (L : List Pt) (k : Nat) (x : Int), k < L.length → (flat ptL L).set (k * 3) (.int .i64 x) = flat ptL (L.set k ⟨x, (L.getD k pt0).y, (L.getD k pt0).w⟩) := by
  intro L
  induction L with
  | nil => intro k x h; simp at h
  | cons p L ih =>
    intro k x h
    have e : ∀ M q, flat ptL (q :: M) = [.int .i64 q.x, .int .i64 q.y, .int .i64 q.w] ++ flat ptL M := fun M q => by simp [flat, ptL]
    cases k with
    | zero => rw [e]; simp [flat, ptL]
    | succ k =>
      rw [e, List.set_append_right _ _ (by simp; omega)]
      have h2 := ih k x (by simp at h; omega)
      rw [show (k + 1) * 3 - [Value.int .i64 p.x, .int .i64 p.y, .int .i64 p.w].length = k * 3 by simp; omega, h2]
      simp [flat, ptL]
theorem flat_sety : ∀ (L : List Pt) (k : Nat) (y : Int), k < L.length → (flat ptL L).set (k * 3 + 1) (.int .i64 y) = flat ptL (L.set k ⟨(L.getD k pt0).x, y, (L.getD k pt0).w⟩) := by
  intro L
  induction L with
  | nil => intro k x h; simp at h
  | cons p L ih =>
    intro k x h
    have e : ∀ M q, flat ptL (q :: M) = [.int .i64 q.x, .int .i64 q.y, .int .i64 q.w] ++ flat ptL M := fun M q => by simp [flat, ptL]
    cases k with
    | zero => rw [e]; simp [flat, ptL]
    | succ k =>
      rw [e, List.set_append_right _ _ (by simp; omega)]
      have h2 := ih k x (by simp at h; omega)
      rw [show (k + 1) * 3 + 1 - [Value.int .i64 p.x, .int .i64 p.y, .int .i64 p.w].length = k * 3 + 1 by simp; omega, h2]
      simp [flat, ptL]
/-- The cells of a point in a row of the call's own. -/
theorem own_pt {w : World} {B n c g : Nat} {L : List Pt} (h : w.ownsRow B 41 3 (.slice (some ⟨g, 0, none⟩) n c) n (flat ptL L)) (i : Nat) (hi : i < n) :
    w.cell? ⟨g, i * 3, none⟩ = some (.int .i64 (L.getD i pt0).x) ∧ w.cell? ⟨g, i * 3 + 1, none⟩ = some (.int .i64 (L.getD i pt0).y) ∧ w.cell? ⟨g, i * 3 + 2, none⟩ = some (.int .i64 (L.getD i pt0).w) := by
  obtain ⟨b, off, e, x0, x1, x2⟩ := pt_cells (own_slc h) i hi
  simp only [Option.some.injEq, Addr.mk.injEq, and_true] at e
  obtain ⟨rfl, rfl⟩ := e
  simp only [Nat.zero_add] at x0 x1 x2
  exact ⟨x0, x1, x2⟩

end Go.Proofs.Ytlmdlholmlbcbaa

/- The law's own meet. -/
import Derived.Test.YtlmdlholmlbcbaaSpn
namespace Go.Proofs.Ytlmdlholmlbcbaa
set_option linter.unusedVariables false
open Go.RowKit

set_option maxHeartbeats 1000000 in
theorem meet_any (s t : Spn) (w : World) (h : t.hi < s.lo ∨ s.hi < t.lo) :
    Calls Try.prog 18 #[.agg #[.int .i64 s.lo, .int .i64 s.hi], .agg #[.int .i64 t.lo, .int .i64 t.hi]] w fun e w' => e = .returned (.bool false) ∧ Below w.heap.size w w' := by
  obtain ⟨x, y⟩ := s
  obtain ⟨u, v⟩ := t
  dsimp only at h ⊢
  have hb : ∀ o o', Below w.heap.size w ((w.alloc o).alloc o') := fun o o' => below_step (below_alloc (Nat.le_refl _) o) (below_alloc (Nat.le_refl _) o')
  have HB := Kp.mk hb
  clear hb
  by_cases h1 : v < x
  · have t1 : decide (x ≤ v) = false := decide_eq_false (by omega)
    clear h
    go_enter Try.func18, Try.ntmps18
    go_wp2
    go_ret
    exact ⟨rfl, HB.out _ _⟩
  · have t1 : decide (x ≤ v) = true := decide_eq_true (by omega)
    have t2 : decide (u ≤ y) = false := decide_eq_false (by omega)
    clear h
    go_enter Try.func18, Try.ntmps18
    go_wp2
    go_ret
    exact ⟨rfl, HB.out _ _⟩


end Go.Proofs.Ytlmdlholmlbcbaa

/- Package seg: what an operation may be. -/
import Derived.Test.YtlmdlholmlbcbaaSegG
import Derived.Test.YtlmdlholmlbcbaaLib
import Derived.Test.YtlmdlholmlbcbaaFlat
namespace Go.Proofs.Ytlmdlholmlbcbaa
set_option linter.unusedVariables false
open Go.RowKit

theorem seg_near (x : Int) (w : World) (h1 : -1048576 ≤ x) (h2 : x ≤ 1048576) : Calls Try.prog 157 #[.int .i64 x] w fun e w' => e = .returned (.bool true) ∧ w = w' := by
  go_enter Try.func157, Try.ntmps157
  go_wp2
  go_ret
  exact ⟨rfl, rfl⟩
theorem seg_far (x : Int) (h1 : -1048576 ≤ x) (h2 : x ≤ 1048576) : Tests 156 #[] (fun _ => false) x := by
  intro W
  go_enter Try.func156, Try.ntmps156
  go_wp2_with fail
  refine (seg_near x W h1 h2).mono ?_
  rintro e w' ⟨rfl, rfl⟩
  go_wp2
  go_ret
  exact ⟨rfl, rfl⟩

/-- An operation that may be, of n places. -/
structure SOp.Ok (o : SOp) (n : Nat) : Prop where
  k1 : 1 ≤ o.kind
  k4 : o.kind ≤ 4
  lh : o.lo ≤ o.hi
  hn : o.hi < n
  a1 : -1048576 ≤ o.amt
  a2 : o.amt ≤ 1048576

set_option maxRecDepth 100000 in
set_option maxHeartbeats 1000000 in
theorem fault_any (o : SOp) (n : Nat) (w : World) (h : o.Ok n) (hn : n ≤ 1000) :
    Calls Try.prog 159 #[opV o, .int .i64 n] w fun e w' => e = .returned (.int .i64 0) ∧ w.alloc (.cells (opC o) 159) = w' := by
  obtain ⟨kd, lo, hi, am⟩ := o
  obtain ⟨k1, k4, lh, hn', a1, a2⟩ := h
  dsimp only at *
  have z1 : ¬ ((kd : Int) < 1) := by omega
  have z2 : ¬ (4 < (kd : Int)) := by omega
  have z3 : ¬ ((lo : Int) < 0) := by omega
  have z4 : ¬ ((hi : Int) < lo) := by omega
  have z5 : ¬ ((n : Int) ≤ hi) := by omega
  by_cases h1 : kd = 1
  · subst h1
    go_enter Try.func159, Try.ntmps159
    go_wp2_with fail
    refine (seg_near am _ a1 a2).mono ?_
    rintro e w' ⟨rfl, rfl⟩
    go_wp2
    go_ret
    exact ⟨rfl, rfl⟩
  · by_cases h2 : kd = 2
    · subst h2
      clear h1
      go_enter Try.func159, Try.ntmps159
      go_wp2_with fail
      refine (seg_near am _ a1 a2).mono ?_
      rintro e w' ⟨rfl, rfl⟩
      go_wp2
      go_ret
      exact ⟨rfl, rfl⟩
    · have e1 : ((kd : Int) == 1) = false := by simp only [beq_eq_false_iff_ne]; omega
      have e2 : ((kd : Int) == 2) = false := by simp only [beq_eq_false_iff_ne]; omega
      clear h1 h2
      go_enter Try.func159, Try.ntmps159
      go_wp2
      go_ret
      exact ⟨rfl, rfl⟩

end Go.Proofs.Ytlmdlholmlbcbaa

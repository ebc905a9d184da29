/- Package wave: At, Rank. -/
import Derived.Test.YtepcmpcnkmfpcaaWav
import Derived.Test.YtepcmpcnkmfpcaaBit
namespace Go.Proofs.Ytepcmpcnkmfpcaa
set_option linter.unusedVariables false
open Go.RowKit

theorem wfacts {w : World} {sa : Option Addr} {sc n : Nat} {E : List Bool} (h : BitsIn w sa sc E) (hE : E.length = n) : w.ownsRow 0 135 1 (.slice sa (bwN n) sc) (bwN n) (wds (wordsOf (bitsN E n) (bwN n))) := by
  subst hE; exact h

set_option maxHeartbeats 1000000 in
theorem wfits_any (a : Option Addr) (cap K x : Nat) (w : World) (hK2 : K ≤ 21) (hx : x ≤ 1000000000) :
    Calls Try.prog 87 #[.agg #[.slice a K cap], .int .i64 x] w fun e w' => e = .returned (.bool (decide (x < 2 ^ K))) ∧ Below w.heap.size w w' := by
  have HA := Kp.mk (below_alloc (Nat.le_refl w.heap.size) (.cells #[.slice a K cap] 57))
  have d0 : (w.alloc (.cells #[.slice a K cap] 57)).cell? ⟨w.heap.size, 0, none⟩ = some (.slice a K cap) := (Box.new w #[.slice a K cap] 57).cell 0 rfl
  have e1 : (x : Int) / 2 ^ K = ((x / 2 ^ K : Nat) : Int) := by push_cast; rfl
  have hd : x / 2 ^ K ≤ x := Nat.div_le_self _ _
  have hp : 0 < 2 ^ K := Nat.pow_pos (by omega)
  by_cases h : x < 2 ^ K
  · have hz : x / 2 ^ K = 0 := Nat.div_eq_of_lt h
    rw [hz] at e1
    have HD := Kp.mk (show decide (x < 2 ^ K) = true from decide_eq_true h)
    clear h hz hp hd
    go_enter Try.func87, Try.ntmps87
    go_wp2
    go_ret
    exact ⟨by rw [HD.out]; rfl, HA.out⟩
  · have hz : 0 < x / 2 ^ K := Nat.div_pos (by omega) hp
    have HD := Kp.mk (show decide (x < 2 ^ K) = false from decide_eq_false h)
    generalize x / 2 ^ K = y at *
    have hb : ((y : Int) == 0) = false := beq_eq_false_iff_ne.2 (by omega)
    clear h hz hp
    go_enter Try.func87, Try.ntmps87
    go_wp2
    go_ret
    exact ⟨by rw [HD.out]; rfl, HA.out⟩

end Go.Proofs.Ytepcmpcnkmfpcaa

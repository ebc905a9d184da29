/- cmp.Compare of integers. -/
import Derived.Test.YteeeikninigeoaaDoorKeep
namespace Go.Proofs.YteeeikninigeoaaDoor
set_option linter.unusedVariables false
open Go.RowKit

def cmpI (x y : Int) : Int := if x < y then -1 else if y < x then 1 else 0
def or3 (a b c : Int) : Int := if a ≠ 0 then a else if b ≠ 0 then b else c

set_option maxHeartbeats 400000 in
theorem cmpNaN_any (x : Int) (w : World) : Calls Tryd.prog 74 #[.int .i64 x] w fun e w' => e = .returned (.bool false) ∧ w = w' := by
  go_enter Tryd.func74, Tryd.ntmps74
  go_wp2
  go_ret
  exact ⟨by simp, rfl⟩

set_option maxHeartbeats 400000 in
theorem compare_any (x y : Int) (w : World) : Calls Tryd.prog 59 #[.int .i64 x, .int .i64 y] w fun e w' => e = .returned (.int .i64 (cmpI x y)) ∧ w = w' := by
  have C := Kp.mk (cmpNaN_any)
  have hor : (x < y ∧ Kp (cmpI x y = -1)) ∨ ((¬ x < y ∧ y < x) ∧ Kp (cmpI x y = 1)) ∨ ((¬ x < y ∧ ¬ y < x) ∧ Kp (cmpI x y = 0)) := by
    unfold cmpI
    by_cases h1 : x < y
    · exact .inl ⟨h1, ⟨if_pos h1⟩⟩
    · by_cases h2 : y < x
      · exact .inr (.inl ⟨⟨h1, h2⟩, ⟨by rw [if_neg h1, if_pos h2]⟩⟩)
      · exact .inr (.inr ⟨⟨h1, h2⟩, ⟨by rw [if_neg h1, if_neg h2]⟩⟩)
  rcases hor with ⟨h1, H⟩ | ⟨⟨h1, h2⟩, H⟩ | ⟨⟨h1, h2⟩, H⟩
  all_goals
    rw [H.out]
    clear H
    go_enter Tryd.func59, Tryd.ntmps59
    go_wp2_with (go_at_call 74; refine (C.out _ _).mono ?_; rintro e w' ⟨rfl, rfl⟩)
    go_ret
    exact ⟨rfl, rfl⟩


end Go.Proofs.YteeeikninigeoaaDoor

/- cmp.Or of two numbers; near.order: the walks. -/
import Derived.Test.YtlmdlholmlbcbaaCmpI
import Derived.Test.YtlmdlholmlbcbaaNrP
import Derived.Test.YtlmdlholmlbcbaaTwo
import Derived.StillTailTactics
import Derived.Sort.OwnSortedInts
namespace Go.Proofs.Ytlmdlholmlbcbaa
set_option linter.unusedVariables false
open Go.RowKit Go.Sort

def or2 (a b : Int) : Int := if a ≠ 0 then a else b
set_option maxHeartbeats 1000000 in
theorem or2_any (b : Nat) (a1 a2 : Int) (w : World) (h0 : w.cell? ⟨b, 0, none⟩ = some (.int .i64 a1)) (h1 : w.cell? ⟨b, 1, none⟩ = some (.int .i64 a2)) :
    Calls Try.prog 89 #[.slice (some ⟨b, 0, none⟩) 2 2] w fun e w' => e = .returned (.int .i64 (or2 a1 a2)) ∧ w = w' := by
  have hor : (a1 ≠ 0 ∧ Kp (or2 a1 a2 = a1)) ∨ (a1 = 0 ∧ a2 ≠ 0 ∧ Kp (or2 a1 a2 = a2)) ∨ (a1 = 0 ∧ a2 = 0 ∧ Kp (or2 a1 a2 = 0)) := by
    unfold or2
    by_cases e1 : a1 = 0
    · by_cases e2 : a2 = 0
      · exact .inr (.inr ⟨e1, e2, ⟨by simp [e1, e2]⟩⟩)
      · exact .inr (.inl ⟨e1, e2, ⟨by simp [e1]⟩⟩)
    · exact .inl ⟨e1, ⟨by simp [e1]⟩⟩
  obtain ⟨r, hr⟩ : ∃ r, or2 a1 a2 = r := ⟨_, rfl⟩
  have HR := Kp.mk hr
  rw [hr] at hor ⊢
  have HO := Kp.mk hor
  clear hor hr
  go_enter Try.func89, Try.ntmps89
  go_wp2
  go_loop [8] (fun i => ∃ k : Nat, k ≤ 2 ∧ i = .int .i64 k ∧ Kp (0 < k → a1 = 0) ∧ Kp (1 < k → a2 = 0)) (fun i => 2 - (intOf i).toNat)
  case atStart => exact ⟨0, by omega, rfl, ⟨by omega⟩, ⟨by omega⟩⟩
  case round =>
    obtain ⟨k, hk, rfl, K1, K2⟩ := hrel
    rcases (show k = 0 ∨ k = 1 ∨ k = 2 by omega) with rfl | rfl | rfl
    · by_cases e : a1 = 0
      · have hd : (a1 != 0) = false := by simp [e]
        have HE := Kp.mk e
        clear e
        go_wp2
        go_round
        case rel => exact ⟨1, by omega, rfl, ⟨fun _ => HE.out⟩, ⟨by omega⟩⟩
        case measure => simp [intOf]
      · have hd : (a1 != 0) = true := by simpa using e
        have HF := Kp.mk (show a1 = r from by
          rcases HO.out with ⟨_, h⟩ | ⟨h, _⟩ | ⟨h, _⟩
          · exact h.out.symm
          · exact absurd h e
          · exact absurd h e)
        clear e
        go_wp2
        go_ret
        exact ⟨by rw [← HF.out]; rfl, rfl⟩
    · by_cases e : a2 = 0
      · have hd : (a2 != 0) = false := by simp [e]
        have HE := Kp.mk e
        clear e
        go_wp2
        go_round
        case rel => exact ⟨2, by omega, rfl, ⟨fun _ => K1.out (by omega)⟩, ⟨fun _ => HE.out⟩⟩
        case measure => simp [intOf]
      · have hd : (a2 != 0) = true := by simpa using e
        have HF := Kp.mk (show a2 = r from by
          have k1 := K1.out (by omega)
          rcases HO.out with ⟨h, _⟩ | ⟨_, _, h⟩ | ⟨_, h, _⟩
          · exact absurd k1 h
          · exact h.out.symm
          · exact absurd h e)
        clear e
        go_wp2
        go_ret
        exact ⟨by rw [← HF.out]; rfl, rfl⟩
    · have HF := Kp.mk (show r = 0 from by
        have k1 := K1.out (by omega)
        have k2 := K2.out (by omega)
        rcases HO.out with ⟨h, _⟩ | ⟨_, h, _⟩ | ⟨_, _, h⟩
        · exact absurd k1 h
        · exact absurd k2 h
        · exact h.out)
      go_wp2
      go_ret
      exact ⟨by rw [HF.out]; rfl, rfl⟩

/-- The comparison of two that were found. -/
def cmpN (f1 p1 f2 p2 : Int) : Int := or2 (cmpI f1 f2) (cmpI p1 p2)
theorem cmpN_neg (f1 p1 f2 p2 : Int) : cmpN f1 p1 f2 p2 < 0 ↔ (f1 < f2 ∨ (f1 = f2 ∧ p1 < p2)) := by
  unfold cmpN or2 cmpI
  repeat' split
  all_goals omega
theorem cmpN_pos (f1 p1 f2 p2 : Int) : cmpN f1 p1 f2 p2 > 0 ↔ (f2 < f1 ∨ (f2 = f1 ∧ p2 < p1)) := by
  unfold cmpN or2 cmpI
  repeat' split
  all_goals omega

set_option maxRecDepth 100000 in
set_option maxHeartbeats 2000000 in
theorem order_any (f1 p1 f2 p2 : Int) (w : World) : Calls Try.prog 64 #[.agg #[.int .i64 f1, .int .i64 p1], .agg #[.int .i64 f2, .int .i64 p2]] w fun e w' => e = .returned (.int .i64 (cmpN f1 p1 f2 p2)) ∧ ∃ q os, w' = grow (w.drewN q) os := by
  have C1 := Kp.mk (fun W => q_eq (compare_any f1 f2 W))
  have C2 := Kp.mk (fun W => q_eq (compare_any p1 p2 W))
  have HP := Kp.mk (show cmpN f1 p1 f2 p2 = or2 (cmpI f1 f2) (cmpI p1 p2) from rfl)
  rw [HP.out]
  clear HP
  generalize cmpI f1 f2 = r1 at *
  generalize cmpI p1 p2 = r2 at *
  go_enter Try.func64, Try.ntmps64
  go_upto_region 1 with (fail)
  obtain ⟨W1, hW1⟩ : ∃ W, w.alloc (.cells #[.int .i64 f1, .int .i64 p1] 101) = W := ⟨_, rfl⟩
  obtain ⟨W2, hW2⟩ : ∃ W, W1.alloc (.cells #[.int .i64 f2, .int .i64 p2] 101) = W := ⟨_, rfl⟩
  rw [hW1, hW2]
  have s1 : W1.heap.size = w.heap.size + 1 := by rw [← hW1, alloc_size]
  have x2 : Box W2 w.heap.size #[.int .i64 f1, .int .i64 p1] 101 := by rw [← hW2]; refine Box.alloc ?_ _; rw [← hW1]; exact Box.new _ _ _
  have y2 : Box W2 (w.heap.size + 1) #[.int .i64 f2, .int .i64 p2] 101 := by rw [← hW2, ← s1]; exact Box.new _ _ _
  have c0 : W2.cell? ⟨w.heap.size, 0, none⟩ = some (.int .i64 f1) := x2.cell 0 rfl
  have c1 : W2.cell? ⟨w.heap.size, 1, none⟩ = some (.int .i64 p1) := x2.cell 1 rfl
  have d0 : W2.cell? ⟨w.heap.size + 1, 0, none⟩ = some (.int .i64 f2) := y2.cell 0 rfl
  have d1 : W2.cell? ⟨w.heap.size + 1, 1, none⟩ = some (.int .i64 p2) := y2.cell 1 rfl
  have HG := Kp.mk (show W2 = grow w #[.cells #[.int .i64 f1, .int .i64 p1] 101, .cells #[.int .i64 f2, .int .i64 p2] 101] by rw [← hW2, ← hW1, alloc_eq_grow, alloc_eq_grow, grow_grow]; rfl)
  clear hW1 hW2 s1 x2 y2
  go_still_tail 10, (by kernel_rfl)
  still_call (C1.out _)
  repeat still_step
  still_call (C2.out _)
  try refine wpStill_nil ?_
  have bx := Box.new W2.drew #[.int .i64 r1, .int .i64 r2] 3
  have CO := Kp.mk (or2_any W2.heap.size r1 r2 (W2.drew.alloc (.cells #[.int .i64 r1, .int .i64 r2] 3)) (bx.cell 0 rfl) (bx.cell 1 rfl))
  clear bx
  go_wp2_with fail
  refine CO.out.mono ?_
  rintro e w' ⟨rfl, rfl⟩
  go_wp2
  go_ret
  exact ⟨rfl, 1, _, by rw [HG.out, alloc_eq_grow, grow_grow, drew_grow]; rfl⟩

end Go.Proofs.Ytlmdlholmlbcbaa

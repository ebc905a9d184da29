/- The turn from a by b to c: the walks of the program's function and of the laws' own. -/
import Derived.Test.YtlmdlholmlbcbaaHulP
import Derived.Test.YtlmdlholmlbcbaaPts
namespace Go.Proofs.Ytlmdlholmlbcbaa
set_option linter.unusedVariables false
open Go.RowKit

theorem mul_in (a b : Int) (ha : -2097152 ≤ a ∧ a ≤ 2097152) (hb : -2097152 ≤ b ∧ b ≤ 2097152) : -4398046511104 ≤ a * b ∧ a * b ≤ 4398046511104 := by
  have h1 := Int.mul_nonneg (show 0 ≤ 2097152 - a by omega) (show 0 ≤ 2097152 - b by omega)
  have h2 := Int.mul_nonneg (show 0 ≤ 2097152 - a by omega) (show 0 ≤ 2097152 + b by omega)
  have h3 := Int.mul_nonneg (show 0 ≤ 2097152 + a by omega) (show 0 ≤ 2097152 - b by omega)
  have h4 := Int.mul_nonneg (show 0 ≤ 2097152 + a by omega) (show 0 ≤ 2097152 + b by omega)
  have e1 : (2097152 - a) * (2097152 - b) = 4398046511104 - 2097152 * a - 2097152 * b + a * b := by grind
  have e2 : (2097152 - a) * (2097152 + b) = 4398046511104 - 2097152 * a + 2097152 * b - a * b := by grind
  have e3 : (2097152 + a) * (2097152 - b) = 4398046511104 + 2097152 * a - 2097152 * b - a * b := by grind
  have e4 : (2097152 + a) * (2097152 + b) = 4398046511104 + 2097152 * a + 2097152 * b + a * b := by grind
  omega

set_option maxRecDepth 100000 in
set_option maxHeartbeats 2000000 in
theorem hturn_any (a b c : Pt) (w : World) (ha : a.Near) (hb : b.Near) (hc : c.Near) :
    Calls Try.prog 55 #[.agg #[.int .i64 a.x, .int .i64 a.y, .int .i64 a.w], .agg #[.int .i64 b.x, .int .i64 b.y, .int .i64 b.w], .agg #[.int .i64 c.x, .int .i64 c.y, .int .i64 c.w]] w fun e w' => e = .returned (.int .i64 (turnP a b c)) ∧ Below w.heap.size w w' := by
  have HT := Kp.mk (show turnP a b c = (b.x - a.x) * (c.y - a.y) - (b.y - a.y) * (c.x - a.x) from rfl)
  generalize turnP a b c = T at *
  obtain ⟨ax, ay, aw⟩ := a
  obtain ⟨bx, by', bw⟩ := b
  obtain ⟨cx, cy, cw⟩ := c
  unfold Pt.Near at ha hb hc
  dsimp only at *
  have w1 : wrap64 (bx - ax) = bx - ax := IntWalk.wrap64_in _ (by omega)
  have w2 : wrap64 (cy - ay) = cy - ay := IntWalk.wrap64_in _ (by omega)
  have w3 : wrap64 (by' - ay) = by' - ay := IntWalk.wrap64_in _ (by omega)
  have w4 : wrap64 (cx - ax) = cx - ax := IntWalk.wrap64_in _ (by omega)
  have m1 := mul_in (bx - ax) (cy - ay) (by omega) (by omega)
  have m2 := mul_in (by' - ay) (cx - ax) (by omega) (by omega)
  have w5 : wrap64 ((bx - ax) * (cy - ay)) = (bx - ax) * (cy - ay) := IntWalk.wrap64_in _ (by omega)
  have w6 : wrap64 ((by' - ay) * (cx - ax)) = (by' - ay) * (cx - ax) := IntWalk.wrap64_in _ (by omega)
  have w7 : wrap64 ((bx - ax) * (cy - ay) - (by' - ay) * (cx - ax)) = (bx - ax) * (cy - ay) - (by' - ay) * (cx - ax) := IntWalk.wrap64_in _ (by omega)
  have HV := Kp.mk (show wrap64 (wrap64 (wrap64 (bx - ax) * wrap64 (cy - ay)) - wrap64 (wrap64 (by' - ay) * wrap64 (cx - ax))) = T from by rw [w1, w2, w3, w4, w5, w6, w7]; exact HT.out.symm)
  clear w1 w2 w3 w4 w5 w6 w7
  have HD := Kp.mk (show Below w.heap.size w (((w.alloc (.cells #[.int .i64 ax, .int .i64 ay, .int .i64 aw] 41)).alloc (.cells #[.int .i64 bx, .int .i64 by', .int .i64 bw] 41)).alloc (.cells #[.int .i64 cx, .int .i64 cy, .int .i64 cw] 41)) from below_then_alloc (below_then_alloc (below_alloc (Nat.le_refl _) _) _) _)
  have b1 := Box.new w #[.int .i64 ax, .int .i64 ay, .int .i64 aw] 41
  have b2 := Box.new (w.alloc (.cells #[.int .i64 ax, .int .i64 ay, .int .i64 aw] 41)) #[.int .i64 bx, .int .i64 by', .int .i64 bw] 41
  have b3 := Box.new ((w.alloc (.cells #[.int .i64 ax, .int .i64 ay, .int .i64 aw] 41)).alloc (.cells #[.int .i64 bx, .int .i64 by', .int .i64 bw] 41)) #[.int .i64 cx, .int .i64 cy, .int .i64 cw] 41
  rw [alloc_size] at b2
  rw [alloc_size, alloc_size] at b3
  have b4 := (b1.alloc (.cells #[.int .i64 bx, .int .i64 by', .int .i64 bw] 41)).alloc (.cells #[.int .i64 cx, .int .i64 cy, .int .i64 cw] 41)
  have b5 := b2.alloc (.cells #[.int .i64 cx, .int .i64 cy, .int .i64 cw] 41)
  have c0 := b4.cell 0 rfl
  have c1 := b4.cell 1 rfl
  have c2 := b5.cell 0 rfl
  have c3 := b5.cell 1 rfl
  have c4 := b3.cell 0 rfl
  have c5 := b3.cell 1 rfl
  clear b1 b2 b3 b4 b5 ha hb hc HT m1 m2
  go_enter Try.func55, Try.ntmps55
  go_wp2
  go_ret
  exact ⟨by rw [← HV.out]; rfl, HD.out⟩

end Go.Proofs.Ytlmdlholmlbcbaa

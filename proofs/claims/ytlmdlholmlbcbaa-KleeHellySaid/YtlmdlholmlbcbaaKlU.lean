/- The laws' own meetRects. -/
import Derived.Test.YtlmdlholmlbcbaaKlM
import Derived.Test.YtlmdlholmlbcbaaTail
import Derived.Test.YtlmdlholmlbcbaaTwo
namespace Go.Proofs.Ytlmdlholmlbcbaa
set_option linter.unusedVariables false
open Go.RowKit
open Pick (Rc meetR okR)

def okB (r : Rc) : Bool := decide (r.x0 ≤ r.x1) && decide (r.y0 ≤ r.y1)
theorem okB_iff (r : Rc) : okB r = true ↔ okR r := by unfold okB okR; simp

set_option maxRecDepth 100000 in
set_option maxHeartbeats 4000000 in
theorem meet_any (r s : Rc) (w : World) :
    Calls Try.prog 33 #[.agg #[.int .i64 r.x0, .int .i64 r.y0, .int .i64 r.x1, .int .i64 r.y1], .agg #[.int .i64 s.x0, .int .i64 s.y0, .int .i64 s.x1, .int .i64 s.y1]] w fun e w' =>
      e = .returned (.tuple #[.agg #[.int .i64 (meetR r s).x0, .int .i64 (meetR r s).y0, .int .i64 (meetR r s).x1, .int .i64 (meetR r s).y1], .bool (okB (meetR r s))]) ∧ Below w.heap.size w w' := by
  obtain ⟨m0, h0⟩ : ∃ z, (if r.x0 < s.x0 then s.x0 else r.x0) = z := ⟨_, rfl⟩
  obtain ⟨m1, h1⟩ : ∃ z, (if r.y0 < s.y0 then s.y0 else r.y0) = z := ⟨_, rfl⟩
  obtain ⟨m2, h2⟩ : ∃ z, (if s.x1 < r.x1 then s.x1 else r.x1) = z := ⟨_, rfl⟩
  obtain ⟨m3, h3⟩ : ∃ z, (if s.y1 < r.y1 then s.y1 else r.y1) = z := ⟨_, rfl⟩
  have HE := Kp.mk (show meetR r s = ⟨m0, m1, m2, m3⟩ from by
    unfold meetR
    rw [← h0, ← h1, ← h2, ← h3]
    congr 1
    · split <;> omega
    · split <;> omega
    · split <;> omega
    · split <;> omega)
  rw [HE.out]
  dsimp only
  have HD := Kp.mk (show okB (⟨m0, m1, m2, m3⟩ : Rc) = (decide (m0 ≤ m2) && decide (m1 ≤ m3)) from by unfold okB; rfl)
  rw [HD.out]
  have H0 := Kp.mk h0
  have H1 := Kp.mk h1
  have H2 := Kp.mk h2
  have H3 := Kp.mk h3
  clear HE h0 h1 h2 h3
  go_enter Try.func33, Try.ntmps33
  go_upto_region 2 with (fail)
  rw [H0.out, H1.out, H2.out, H3.out]
  obtain ⟨W1, hW1⟩ : ∃ W, w.alloc (.cells #[.int .i64 r.x0, .int .i64 r.y0, .int .i64 r.x1, .int .i64 r.y1] 65) = W := ⟨_, rfl⟩
  obtain ⟨W2, hW2⟩ : ∃ W, W1.alloc (.cells #[.int .i64 s.x0, .int .i64 s.y0, .int .i64 s.x1, .int .i64 s.y1] 65) = W := ⟨_, rfl⟩
  obtain ⟨W3, hW3⟩ : ∃ W, W2.alloc (.cells #[.int .i64 0, .int .i64 0, .int .i64 0, .int .i64 0] 65) = W := ⟨_, rfl⟩
  obtain ⟨W4, hW4⟩ : ∃ W, W3.alloc (.cells #[.int .i64 m0, .int .i64 m1, .int .i64 m2, .int .i64 m3] 65) = W := ⟨_, rfl⟩
  have s1 : W1.heap.size = w.heap.size + 1 := by rw [← hW1, alloc_size]
  have s2 : W2.heap.size = w.heap.size + 2 := by rw [← hW2, alloc_size, s1]
  have s3 : W3.heap.size = w.heap.size + 3 := by rw [← hW3, alloc_size, s2]
  have b1 : Below w.heap.size w W1 := by rw [← hW1]; exact below_alloc (Nat.le_refl _) _
  have b2 : Below w.heap.size w W2 := by rw [← hW2]; exact b1.alloc (by omega) _
  have b3 : Below w.heap.size w W3 := by rw [← hW3]; exact b2.alloc (by omega) _
  have b4 : Below w.heap.size w W4 := by rw [← hW4]; exact b3.alloc (by omega) _
  have x3 : Box W3 (w.heap.size + 2) #[.int .i64 0, .int .i64 0, .int .i64 0, .int .i64 0] 65 := by rw [← hW3, ← s2]; exact Box.new _ _ _
  have x4 : Box W4 (w.heap.size + 2) #[.int .i64 0, .int .i64 0, .int .i64 0, .int .i64 0] 65 := by rw [← hW4]; exact x3.alloc _
  have y4 : Box W4 (w.heap.size + 2 + 1) #[.int .i64 m0, .int .i64 m1, .int .i64 m2, .int .i64 m3] 65 := by rw [← hW4, show w.heap.size + 2 + 1 = W3.heap.size by omega]; exact Box.new _ _ _
  rw [hW1, hW2, hW3, hW4]
  have HB4 := Kp.mk b4
  have HX4 := Kp.mk x4
  have HY4 := Kp.mk y4
  clear hW1 hW2 hW3 hW4 s1 s2 s3 b1 b2 b3 b4 x3 x4 y4 H0 H1 H2 H3
  have c0 : W4.cell? ⟨w.heap.size + 2 + 1, 0, none⟩ = some (.int .i64 m0) := HY4.out.cell 0 rfl
  have c1 : W4.cell? ⟨w.heap.size + 2 + 1, 1, none⟩ = some (.int .i64 m1) := HY4.out.cell 1 rfl
  have c2 : W4.cell? ⟨w.heap.size + 2 + 1, 2, none⟩ = some (.int .i64 m2) := HY4.out.cell 2 rfl
  have c3 : W4.cell? ⟨w.heap.size + 2 + 1, 3, none⟩ = some (.int .i64 m3) := HY4.out.cell 3 rfl
  have f0 := frozen_of_row _ (w.heap.size + 2) 0 #[.int .i64 0, .int .i64 0, .int .i64 0, .int .i64 0] 65 HX4.out
  have f1 := frozen_of_row _ (w.heap.size + 2) 1 #[.int .i64 0, .int .i64 0, .int .i64 0, .int .i64 0] 65 HX4.out
  have f2 := frozen_of_row _ (w.heap.size + 2) 2 #[.int .i64 0, .int .i64 0, .int .i64 0, .int .i64 0] 65 HX4.out
  have f3 := frozen_of_row _ (w.heap.size + 2) 3 #[.int .i64 0, .int .i64 0, .int .i64 0, .int .i64 0] 65 HX4.out
  have g0 : W4.cell? ⟨w.heap.size + 2, 0, none⟩ = some (.int .i64 0) := HX4.out.cell 0 rfl
  have g1 : W4.cell? ⟨w.heap.size + 2, 1, none⟩ = some (.int .i64 0) := HX4.out.cell 1 rfl
  have g2 : W4.cell? ⟨w.heap.size + 2, 2, none⟩ = some (.int .i64 0) := HX4.out.cell 2 rfl
  have g3 : W4.cell? ⟨w.heap.size + 2, 3, none⟩ = some (.int .i64 0) := HX4.out.cell 3 rfl
  have hne : w.heap.size + 2 ≠ w.heap.size + 2 + 1 := by omega
  have hne' : w.heap.size + 2 + 1 ≠ w.heap.size + 2 := by omega
  have HP2 := Kp.mk (show w.heap.size ≤ w.heap.size + 2 by omega)
  generalize w.heap.size + 2 = p2 at *
  by_cases hc : m0 ≤ m2
  · have d1 : decide (m0 ≤ m2) = true := decide_eq_true hc
    go_wp2
    go_region
    have q5 := box_put (i := 3) (box_put (i := 2) (box_put (i := 1) (box_put (i := 0) HX4.out (.int .i64 m0)) (.int .i64 m1)) (.int .i64 m2)) (.int .i64 m3)
    have b5 := below_of_grown (grown_trans (grown_trans (grown_trans (grown_set W4 p2 0 (.int .i64 m0)) (grown_set _ p2 1 (.int .i64 m1))) (grown_set _ p2 2 (.int .i64 m2))) (grown_set _ p2 3 (.int .i64 m3))) HB4.out.size (fun q hq => by cases hq; exact HP2.out)
    obtain ⟨W5, hW5⟩ : ∃ W5, (((W4.setCell ⟨p2, 0, none⟩ (.int .i64 m0)).setCell ⟨p2, 1, none⟩ (.int .i64 m1)).setCell ⟨p2, 2, none⟩ (.int .i64 m2)).setCell ⟨p2, 3, none⟩ (.int .i64 m3) = W5 := ⟨_, rfl⟩
    rw [hW5] at q5 b5 ⊢
    have q6 : Box W5 p2 #[.int .i64 m0, .int .i64 m1, .int .i64 m2, .int .i64 m3] 65 := q5
    have r0 : W5.cell? ⟨p2, 0, none⟩ = some (.int .i64 m0) := q6.cell 0 rfl
    have r1 : W5.cell? ⟨p2, 1, none⟩ = some (.int .i64 m1) := q6.cell 1 rfl
    have r2 : W5.cell? ⟨p2, 2, none⟩ = some (.int .i64 m2) := q6.cell 2 rfl
    have r3 : W5.cell? ⟨p2, 3, none⟩ = some (.int .i64 m3) := q6.cell 3 rfl
    have HB5 := Kp.mk ((HB4.out.trans b5).drew)
    clear c0 c1 c2 c3 f0 f1 f2 f3 g0 g1 g2 g3 hne hne' hW5 q5 q6 b5 HX4 HY4 HB4
    go_wp2
    exact bodyPost_ret (v := .tuple #[.agg #[.int .i64 m0, .int .i64 m1, .int .i64 m2, .int .i64 m3], .bool (decide (m1 ≤ m3))]) (by simp [results, Try.results33, go_sem, r0, r1, r2, r3]) rfl ⟨by rw [d1, Bool.true_and], HB5.out⟩
  · have d1 : decide (m0 ≤ m2) = false := decide_eq_false hc
    go_wp2
    go_region
    have q5 := box_put (i := 3) (box_put (i := 2) (box_put (i := 1) (box_put (i := 0) HX4.out (.int .i64 m0)) (.int .i64 m1)) (.int .i64 m2)) (.int .i64 m3)
    have b5 := below_of_grown (grown_trans (grown_trans (grown_trans (grown_set W4 p2 0 (.int .i64 m0)) (grown_set _ p2 1 (.int .i64 m1))) (grown_set _ p2 2 (.int .i64 m2))) (grown_set _ p2 3 (.int .i64 m3))) HB4.out.size (fun q hq => by cases hq; exact HP2.out)
    obtain ⟨W5, hW5⟩ : ∃ W5, (((W4.setCell ⟨p2, 0, none⟩ (.int .i64 m0)).setCell ⟨p2, 1, none⟩ (.int .i64 m1)).setCell ⟨p2, 2, none⟩ (.int .i64 m2)).setCell ⟨p2, 3, none⟩ (.int .i64 m3) = W5 := ⟨_, rfl⟩
    rw [hW5] at q5 b5 ⊢
    have q6 : Box W5 p2 #[.int .i64 m0, .int .i64 m1, .int .i64 m2, .int .i64 m3] 65 := q5
    have r0 : W5.cell? ⟨p2, 0, none⟩ = some (.int .i64 m0) := q6.cell 0 rfl
    have r1 : W5.cell? ⟨p2, 1, none⟩ = some (.int .i64 m1) := q6.cell 1 rfl
    have r2 : W5.cell? ⟨p2, 2, none⟩ = some (.int .i64 m2) := q6.cell 2 rfl
    have r3 : W5.cell? ⟨p2, 3, none⟩ = some (.int .i64 m3) := q6.cell 3 rfl
    have HB5 := Kp.mk ((HB4.out.trans b5).drew)
    clear c0 c1 c2 c3 f0 f1 f2 f3 g0 g1 g2 g3 hne hne' hW5 q5 q6 b5 HX4 HY4 HB4
    go_wp2
    exact bodyPost_ret (v := .tuple #[.agg #[.int .i64 m0, .int .i64 m1, .int .i64 m2, .int .i64 m3], .bool false]) (by simp [results, Try.results33, go_sem, r0, r1, r2, r3]) rfl ⟨by rw [d1, Bool.false_and], HB5.out⟩

end Go.Proofs.Ytlmdlholmlbcbaa

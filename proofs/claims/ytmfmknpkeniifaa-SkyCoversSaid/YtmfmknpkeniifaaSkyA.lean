/- The laws' own pointAbove. -/
import Derived.Test.YtmfmknpkeniifaaSkyP
import Derived.Test.YtmfmknpkeniifaaPts
namespace Go.Proofs.Ytmfmknpkeniifaa
set_option linter.unusedVariables false
open Go.RowKit

def ptV (p : Pt) : Value := .agg #[.int .i64 p.x, .int .i64 p.y, .int .i64 p.w]

set_option maxHeartbeats 2000000 in
theorem pabove_any (p q : Pt) (w : World) : Calls Try.prog 33 #[.agg #[.int .i64 p.x, .int .i64 p.y, .int .i64 p.w], .agg #[.int .i64 q.x, .int .i64 q.y, .int .i64 q.w]] w fun e w' => e = .returned (.bool (decide (Above p q))) ∧ Below w.heap.size w w' := by
  obtain ⟨px, py, pw⟩ := p
  obtain ⟨qx, qy, qw⟩ := q
  have HD := Kp.mk (show Below w.heap.size w ((w.alloc (.cells #[.int .i64 px, .int .i64 py, .int .i64 pw] 26)).alloc (.cells #[.int .i64 qx, .int .i64 qy, .int .i64 qw] 26)) from below_then_alloc (below_alloc (Nat.le_refl _) _) _)
  have b1 := Box.new w #[.int .i64 px, .int .i64 py, .int .i64 pw] 26
  have b2 := Box.new (w.alloc (.cells #[.int .i64 px, .int .i64 py, .int .i64 pw] 26)) #[.int .i64 qx, .int .i64 qy, .int .i64 qw] 26
  rw [alloc_size] at b2
  have b3 := b1.alloc (.cells #[.int .i64 qx, .int .i64 qy, .int .i64 qw] 26)
  have c0 := b3.cell 0 rfl
  have c1 := b3.cell 1 rfl
  have d0 := b2.cell 0 rfl
  have d1 := b2.cell 1 rfl
  clear b1 b2 b3
  dsimp only
  obtain ⟨r, hr⟩ : ∃ r, decide (Above ⟨px, py, pw⟩ ⟨qx, qy, qw⟩) = r := ⟨_, rfl⟩
  rw [hr]
  have HR := Kp.mk hr
  clear hr
  by_cases h1 : qx ≤ px
  · by_cases h2 : qy ≤ py
    · have t1 : decide (qx ≤ px) = true := decide_eq_true h1
      have t2 : decide (qy ≤ py) = true := decide_eq_true h2
      by_cases h3 : px = qx
      · have t3 : (px != qx) = false := by simpa using h3
        by_cases h4 : py = qy
        · have t4 : (py != qy) = false := by simpa using h4
          have HF := Kp.mk (show r = false from by rw [← HR.out]; unfold Above; simp [h3, h4])
          clear h3 h4
          go_enter Try.func33, Try.ntmps33
          go_wp2
          go_ret
          exact ⟨by rw [HF.out]; rfl, HD.out⟩
        · have t4 : (py != qy) = true := by simpa using h4
          have HF := Kp.mk (show r = true from by rw [← HR.out]; unfold Above; simp [h1, h2, h4])
          clear h3 h4
          go_enter Try.func33, Try.ntmps33
          go_wp2
          go_ret
          exact ⟨by rw [HF.out]; rfl, HD.out⟩
      · have t3 : (px != qx) = true := by simpa using h3
        have HF := Kp.mk (show r = true from by rw [← HR.out]; unfold Above; simp [h1, h2, h3])
        clear h3
        go_enter Try.func33, Try.ntmps33
        go_wp2
        go_ret
        exact ⟨by rw [HF.out]; rfl, HD.out⟩
    · have t1 : decide (qx ≤ px) = true := decide_eq_true h1
      have t2 : decide (qy ≤ py) = false := decide_eq_false h2
      have HF := Kp.mk (show r = false from by rw [← HR.out]; unfold Above; simp [h2])
      go_enter Try.func33, Try.ntmps33
      go_wp2
      go_ret
      exact ⟨by rw [HF.out]; rfl, HD.out⟩
  · have t1 : decide (qx ≤ px) = false := decide_eq_false h1
    have HF := Kp.mk (show r = false from by rw [← HR.out]; unfold Above; simp [h1])
    go_enter Try.func33, Try.ntmps33
    go_wp2
    go_ret
    exact ⟨by rw [HF.out]; rfl, HD.out⟩

theorem pabove_t (p q : Pt) (h : Above p q) (w : World) : Calls Try.prog 33 #[.agg #[.int .i64 p.x, .int .i64 p.y, .int .i64 p.w], .agg #[.int .i64 q.x, .int .i64 q.y, .int .i64 q.w]] w fun e w' => e = .returned (.bool true) ∧ Below w.heap.size w w' := by
  have := pabove_any p q w
  rwa [decide_eq_true h] at this
theorem pabove_f (p q : Pt) (h : ¬ Above p q) (w : World) : Calls Try.prog 33 #[.agg #[.int .i64 p.x, .int .i64 p.y, .int .i64 p.w], .agg #[.int .i64 q.x, .int .i64 q.y, .int .i64 q.w]] w fun e w' => e = .returned (.bool false) ∧ Below w.heap.size w w' := by
  have := pabove_any p q w
  rwa [decide_eq_false h] at this

end Go.Proofs.Ytmfmknpkeniifaa

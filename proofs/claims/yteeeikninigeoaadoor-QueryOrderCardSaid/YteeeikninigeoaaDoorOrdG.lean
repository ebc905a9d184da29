/- A comparison of two places by x, y and place: the walk of the closure. -/
import Derived.Test.YteeeikninigeoaaDoorOrdC
namespace Go.Proofs.YteeeikninigeoaaDoor
set_option linter.unusedVariables false
open Go.RowKit Go.Sort

set_option maxRecDepth 100000 in
set_option maxHeartbeats 2000000 in
theorem gridOrd_any (bs : Nat) (a : Option Addr) (cap n x y : Nat) (L : List Pt) (w : World) (h : SlF ptL 3 w a n cap L) (hn : n ≤ 1000) (hb : w.cell? ⟨bs, 0, none⟩ = some (.slice a n cap)) (hx : x < n) (hy : y < n) :
    Calls Tryd.prog 57 #[.int .i64 x, .int .i64 y, .pointer (some ⟨bs, 0, none⟩)] w fun e w' => e = .returned (.int .i64 (cmpP L x y)) ∧ ∃ q os, w' = grow (w.drewN q) os := by
  have hl := h.len ptL_len (by omega)
  obtain ⟨b, off, rfl, hbw, cx⟩ := h.at ptL_len (by omega) x (by omega)
  obtain ⟨_, _, e1, _, cy⟩ := h.at ptL_len (by omega) y (by omega)
  simp only [Option.some.injEq, Addr.mk.injEq, and_true] at e1
  obtain ⟨rfl, rfl⟩ := e1
  rw [← getD_at L pt0 (by omega)] at cx cy
  have HP := Kp.mk (show cmpP L x y = or3 (cmpI (L.getD x pt0).x (L.getD y pt0).x) (cmpI (L.getD x pt0).y (L.getD y pt0).y) (cmpI x y) from rfl)
  generalize L.getD x pt0 = p at *
  generalize L.getD y pt0 = q at *
  have x0 : w.cell? ⟨b, off + x * 3, none⟩ = some (.int .i64 p.x) := cx 0 (by omega)
  have x1 : w.cell? ⟨b, off + x * 3 + 1, none⟩ = some (.int .i64 p.y) := cx 1 (by omega)
  have y0 : w.cell? ⟨b, off + y * 3, none⟩ = some (.int .i64 q.x) := cy 0 (by omega)
  have y1 : w.cell? ⟨b, off + y * 3 + 1, none⟩ = some (.int .i64 q.y) := cy 1 (by omega)
  have C1 := Kp.mk (fun W => q_eq (compare_any p.x q.x W))
  have C2 := Kp.mk (fun W => q_eq (compare_any p.y q.y W))
  have C3 := Kp.mk (fun W => q_eq (compare_any (x : Int) (y : Int) W))
  rw [HP.out]
  clear h cx cy HP hl
  generalize cmpI p.x q.x = c1 at *
  generalize cmpI p.y q.y = c2 at *
  generalize cmpI (x : Int) (y : Int) = c3 at *
  go_enter Tryd.func57, Tryd.ntmps57
  go_wp2
  go_still_tail 25, (by kernel_rfl)
  still_call (C1.out _)
  repeat still_step
  still_call (C2.out _)
  repeat still_step
  still_call (C3.out _)
  try refine wpStill_nil ?_
  have bx := Box.new w.drew #[.int .i64 c1, .int .i64 c2, .int .i64 c3] 3
  have CO := Kp.mk (or3_any w.heap.size c1 c2 c3 (w.drew.alloc (.cells #[.int .i64 c1, .int .i64 c2, .int .i64 c3] 3)) (bx.cell 0 rfl) (bx.cell 1 rfl) (bx.cell 2 rfl))
  clear bx
  go_wp2_with fail
  refine CO.out.mono ?_
  rintro e w' ⟨rfl, rfl⟩
  go_wp2
  go_ret
  exact ⟨rfl, 1, #[.cells #[.int .i64 c1, .int .i64 c2, .int .i64 c3] 3], by rw [alloc_eq_grow, drew_grow]; rfl⟩

end Go.Proofs.YteeeikninigeoaaDoor

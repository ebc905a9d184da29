/- QueryMorgan's own 'not': the walk. -/
import Derived.Test.YteeeikninigeoaaGreatDoorQryN
namespace Go.Proofs.YteeeikninigeoaaGreatDoor
set_option linter.unusedVariables false
open Go.RowKit

set_option maxRecDepth 100000 in
set_option maxHeartbeats 4000000 in
theorem not_any (x : Ex) (k a b c d y : Int) (sa : Option Addr) (n cap : Nat) (w : World) (h : IsEx w x ⟨k, a, b, c, d, y, sa, n, cap⟩) :
    Calls Tryz.prog 10 #[.agg (exA k a b c d y sa n cap)] w fun e w' => ∃ g : Nat, e = .returned (.agg (exA 5 0 0 0 0 0 (some ⟨g, 0, none⟩) 1 1)) ∧ Kp (IsEx w' (.not x) ⟨5, 0, 0, 0, 0, 0, some ⟨g, 0, none⟩, 1, 1⟩) ∧ Kp (Below w.heap.size w w') := by
  have H := Kp.mk h
  clear h
  go_enter Tryz.func10, Tryz.ntmps10
  go_wp2
  obtain ⟨wA, hA⟩ : ∃ wA, w.alloc (.cells (exA k a b c d y sa n cap) 30) = wA := ⟨_, rfl⟩
  have sA : wA.heap.size = w.heap.size + 1 := by rw [← hA, alloc_size]
  obtain ⟨wB, hB⟩ : ∃ wB, wA.alloc (.cells (exA 5 0 0 0 0 0 (some ⟨w.heap.size + 1 + 1, 0, none⟩) 1 1) 30) = wB := ⟨_, rfl⟩
  have sB : wB.heap.size = w.heap.size + 1 + 1 := by rw [← hB, alloc_size, sA]
  have b1 : Below w.heap.size w wB := by rw [← hB, ← hA]; exact below_then_alloc (below_alloc (Nat.le_refl _) _) _
  have hbx : Box wB (w.heap.size + 1) (exA 5 0 0 0 0 0 (some ⟨w.heap.size + 1 + 1, 0, none⟩) 1 1) 30 := by rw [← hB, ← sA]; exact Box.new _ _ _
  rw [hA]
  rw [show (#[Value.int IntKind.i64 5, Value.int IntKind.i64 0, Value.int IntKind.i64 0, Value.int IntKind.i64 0, Value.int IntKind.i64 0, Value.int IntKind.i64 0, Value.slice (some ⟨w.heap.size + 1 + 1, 0, none⟩) 1 1] : Array Value) = exA 5 0 0 0 0 0 (some ⟨w.heap.size + 1 + 1, 0, none⟩) 1 1 from rfl, hB]
  have hsl := lit_sl wB [⟨k, a, b, c, d, y, sa, n, cap⟩] 1 rfl (by omega) (exA k a b c d y sa n cap) rfl
  rw [sB] at hsl
  have hbC := below_alloc (Nat.le_refl wB.heap.size) (.cells (exA k a b c d y sa n cap) 30)
  obtain ⟨wC, hC⟩ : ∃ wC, wB.alloc (.cells (exA k a b c d y sa n cap) 30) = wC := ⟨_, rfl⟩
  rw [hC] at hsl hbC
  rw [show (#[Value.int IntKind.i64 k, Value.int IntKind.i64 a, Value.int IntKind.i64 b, Value.int IntKind.i64 c, Value.int IntKind.i64 d, Value.int IntKind.i64 y, Value.slice sa n cap] : Array Value) = exA k a b c d y sa n cap from rfl, hC]
  have hbx2 := hbx.below hbC
  have z0 : wC.cell? ⟨w.heap.size + 1, 0, none⟩ = some (.int .i64 5) := hbx2.cell 0 rfl
  have z1 : wC.cell? ⟨w.heap.size + 1, 1, none⟩ = some (.int .i64 0) := hbx2.cell 1 rfl
  have z2 : wC.cell? ⟨w.heap.size + 1, 2, none⟩ = some (.int .i64 0) := hbx2.cell 2 rfl
  have z3 : wC.cell? ⟨w.heap.size + 1, 3, none⟩ = some (.int .i64 0) := hbx2.cell 3 rfl
  have z4 : wC.cell? ⟨w.heap.size + 1, 4, none⟩ = some (.int .i64 0) := hbx2.cell 4 rfl
  have z5 : wC.cell? ⟨w.heap.size + 1, 5, none⟩ = some (.int .i64 0) := hbx2.cell 5 rfl
  have z6 : wC.cell? ⟨w.heap.size + 1, 6, none⟩ = some (.slice (some ⟨w.heap.size + 1 + 1, 0, none⟩) 1 1) := hbx2.cell 6 rfl
  refine bodyPost_ret (v := .agg (exA 5 0 0 0 0 0 (some ⟨w.heap.size + 1 + 1, 0, none⟩) 1 1)) (by simp [results, Tryz.results10, go_sem, z0, z1, z2, z3, z4, z5, z6]) rfl ?_
  exact ⟨w.heap.size + 1 + 1, rfl, ⟨⟨_, _, _, rfl, hsl, (H.out.below (b1.mono (Nat.le_refl _))).below hbC⟩⟩, ⟨below_step b1 hbC⟩⟩

/-- The same, the cells written out. -/
theorem not_lit (x : Ex) (k a b c d y : Int) (sa : Option Addr) (n cap : Nat) (w : World) (h : IsEx w x ⟨k, a, b, c, d, y, sa, n, cap⟩) :
    Calls Tryz.prog 10 #[.agg #[.int .i64 k, .int .i64 a, .int .i64 b, .int .i64 c, .int .i64 d, .int .i64 y, .slice sa n cap]] w fun e w' => ∃ g : Nat, e = .returned (.agg #[.int .i64 5, .int .i64 0, .int .i64 0, .int .i64 0, .int .i64 0, .int .i64 0, .slice (some ⟨g, 0, none⟩) 1 1]) ∧ Kp (IsEx w' (.not x) ⟨5, 0, 0, 0, 0, 0, some ⟨g, 0, none⟩, 1, 1⟩) ∧ Kp (Below w.heap.size w w') := not_any x k a b c d y sa n cap w h

end Go.Proofs.YteeeikninigeoaaGreatDoor

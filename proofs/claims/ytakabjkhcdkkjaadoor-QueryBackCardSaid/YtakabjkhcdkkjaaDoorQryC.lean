/- Package query: Check: the walk. -/
import Derived.Test.YtakabjkhcdkkjaaDoorQryA
import Derived.Test.YtakabjkhcdkkjaaDoorQryT
namespace Go.Proofs.YtakabjkhcdkkjaaDoor
set_option linter.unusedVariables false
open Go.RowKit

set_option maxRecDepth 100000 in
set_option maxHeartbeats 4000000 in
theorem qcheck_any (x : Ex) (v : ExV) (w : World) (h : IsEx w x v) (hs : x.small) (hd : x.dep ≤ 8) (hl : x.txt.length ≤ 400) (hT : Tab w) :
    Calls Tryd.prog 7 #[.agg (exL v).toArray] w fun e w' => e = .returned (.int .i64 0) ∧ RowKit.Below w.heap.size w w' := by
  have HF := Kp.mk (fun (W : World) (hW : RowKit.Below w.heap.size w W) => fault_any x 0 v W (h.below hW) hs (by omega))
  have HX := Kp.mk (fun (W : World) (hW : RowKit.Below w.heap.size w W) => text_any x v W (h.below hW) hs (by omega) (hT.below hW))
  have hls : (⟨x.txt.toArray⟩ : ByteArray).size ≤ 400 := str_size hl
  clear h hs hd hT
  obtain ⟨k, a, b, c, d, y, sa, n, cap⟩ := v
  show Calls Tryd.prog 7 #[.agg #[.int .i64 k, .int .i64 a, .int .i64 b, .int .i64 c, .int .i64 d, .int .i64 y, .slice sa n cap]] w _
  generalize x.txt = t at *
  have HA := Kp.mk (below_alloc (Nat.le_refl w.heap.size) (.cells #[.int .i64 k, .int .i64 a, .int .i64 b, .int .i64 c, .int .i64 d, .int .i64 y, .slice sa n cap] 27))
  have HBX := Kp.mk (Box.new w #[.int .i64 k, .int .i64 a, .int .i64 b, .int .i64 c, .int .i64 d, .int .i64 y, .slice sa n cap] 27)
  obtain ⟨bz, hbz⟩ : ∃ bz, w.heap.size = bz := ⟨_, rfl⟩
  obtain ⟨w1, hw1⟩ : ∃ w1, w.alloc (.cells #[.int .i64 k, .int .i64 a, .int .i64 b, .int .i64 c, .int .i64 d, .int .i64 y, .slice sa n cap] 27) = w1 := ⟨_, rfl⟩
  rw [hw1] at HA HBX
  rw [hbz] at HBX
  have CF := Kp.mk (HF.out w1 HA.out)
  have z0 : w1.cell? ⟨bz, 0, none⟩ = some (.int .i64 k) := HBX.out.cell 0 rfl
  have z1 : w1.cell? ⟨bz, 1, none⟩ = some (.int .i64 a) := HBX.out.cell 1 rfl
  have z2 : w1.cell? ⟨bz, 2, none⟩ = some (.int .i64 b) := HBX.out.cell 2 rfl
  have z3 : w1.cell? ⟨bz, 3, none⟩ = some (.int .i64 c) := HBX.out.cell 3 rfl
  have z4 : w1.cell? ⟨bz, 4, none⟩ = some (.int .i64 d) := HBX.out.cell 4 rfl
  have z5 : w1.cell? ⟨bz, 5, none⟩ = some (.int .i64 y) := HBX.out.cell 5 rfl
  have z6 : w1.cell? ⟨bz, 6, none⟩ = some (.slice sa n cap) := HBX.out.cell 6 rfl
  have HBZ := Kp.mk hbz
  go_enter Tryd.func7, Tryd.ntmps7
  go_upto_region 1 with (fail)
  try rw [hw1]
  try simp only [hbz]
  clear hw1 hbz HF
  go_wp2_with fail
  refine CF.out.mono ?_
  rintro e w2 ⟨rfl, hb2⟩
  have HB2 := Kp.mk (below_step HA.out hb2)
  have hbx := HBX.out.below hb2
  have y0 : w2.cell? ⟨bz, 0, none⟩ = some (.int .i64 k) := hbx.cell 0 rfl
  have y1 : w2.cell? ⟨bz, 1, none⟩ = some (.int .i64 a) := hbx.cell 1 rfl
  have y2 : w2.cell? ⟨bz, 2, none⟩ = some (.int .i64 b) := hbx.cell 2 rfl
  have y3 : w2.cell? ⟨bz, 3, none⟩ = some (.int .i64 c) := hbx.cell 3 rfl
  have y4 : w2.cell? ⟨bz, 4, none⟩ = some (.int .i64 d) := hbx.cell 4 rfl
  have y5 : w2.cell? ⟨bz, 5, none⟩ = some (.int .i64 y) := hbx.cell 5 rfl
  have y6 : w2.cell? ⟨bz, 6, none⟩ = some (.slice sa n cap) := hbx.cell 6 rfl
  have CX := Kp.mk (HX.out w2 HB2.out)
  clear z0 z1 z2 z3 z4 z5 z6 hbx hb2 CF HBX HA HX
  go_wp2_with fail
  refine CX.out.mono ?_
  rintro e w3 ⟨rfl, hb3⟩
  have HB3 := Kp.mk (below_step HB2.out hb3)
  have hlz : (t.length : Int) ≤ 400 := by omega
  have hlz3 : ¬ 400 < t.length := by omega
  have hlz4 : decide (400 < t.length) = false := decide_eq_false (by omega)
  have hlz2 : ¬ ((⟨t.toArray⟩ : ByteArray).size : Int) > 400 := by omega
  clear y0 y1 y2 y3 y4 y5 y6 CX hb3
  go_wp2
  go_ret
  exact ⟨rfl, HB3.out⟩

end Go.Proofs.YtakabjkhcdkkjaaDoor

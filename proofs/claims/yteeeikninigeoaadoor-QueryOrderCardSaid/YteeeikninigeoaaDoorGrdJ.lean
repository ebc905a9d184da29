/- Package grid: the function Report. -/
import Derived.Test.YteeeikninigeoaaDoorGrdR
namespace Go.Proofs.YteeeikninigeoaaDoor
set_option linter.unusedVariables false
open Go.RowKit

set_option maxRecDepth 100000 in
set_option maxHeartbeats 4000000 in
theorem gReport_any (a : Option Addr) (cap n : Nat) (L : List Pt) (X0 Y0 X1 Y1 : Int) (w : World) (h : SlF ptL 3 w a n cap L) (hn : n ≤ 150) (hN : ∀ p ∈ L, p.Near) :
    Calls Tryd.prog 39 #[.slice a n cap, .agg #[.int .i64 X0, .int .i64 Y0, .int .i64 X1, .int .i64 Y1]] w fun e w' => ∃ ra m rc out, e = .returned (.tuple #[.slice ra m rc, .int .i64 0]) ∧ Kp (IsRep L X0 Y0 X1 Y1 out ∧ out.length = m ∧ m ≤ n) ∧ Kp (w'.ownsRow w.heap.size 3 1 (.slice ra m rc) m (ints (out.map Int.ofNat))) ∧ Kp (Below w.heap.size w w') := by
  have HA := Kp.mk (below_alloc (Nat.le_refl w.heap.size) (.cells #[.int .i64 X0, .int .i64 Y0, .int .i64 X1, .int .i64 Y1] 24))
  have HBX := Kp.mk (Box.new w #[.int .i64 X0, .int .i64 Y0, .int .i64 X1, .int .i64 Y1] 24)
  have H1 := Kp.mk (SlF.below h HA.out)
  have CC := Kp.mk (gcheck_any a cap n L _ H1.out hn hN)
  clear h hN
  go_enter Tryd.func39, Tryd.ntmps39
  go_wp2_with fail
  refine CC.out.mono ?_
  rintro e w1 ⟨rfl, HB1⟩
  have H2 := Kp.mk (SlF.below H1.out HB1.out)
  have HX1 := Kp.mk (HBX.out.below HB1.out)
  have HBB1 := Kp.mk (below_step HA.out HB1.out)
  clear CC H1 HBX HA HB1
  have HD := Kp.mk (show Below w1.heap.size w1 w1.drew from (Below.refl _ _).drew)
  have HP := Kp.mk (SlF.below H2.out HD.out)
  obtain ⟨bz, hbz⟩ : ∃ bz, w.heap.size = bz := ⟨_, rfl⟩
  have HBZE := Kp.mk hbz
  have HBZ := Kp.mk (show bz ≤ w1.heap.size from by rw [← hbz]; exact HBB1.out.size)
  rw [hbz] at HX1 HBB1 ⊢
  have x0 : w1.cell? ⟨bz, 0, none⟩ = some (.int .i64 X0) := HX1.out.cell 0 rfl
  have x1 : w1.cell? ⟨bz, 1, none⟩ = some (.int .i64 Y0) := HX1.out.cell 1 rfl
  have x2 : w1.cell? ⟨bz, 2, none⟩ = some (.int .i64 X1) := HX1.out.cell 2 rfl
  have x3 : w1.cell? ⟨bz, 3, none⟩ = some (.int .i64 Y1) := HX1.out.cell 3 rfl
  have HKS := Kp.mk (fun (w' : World) (hb : Below w1.drew.heap.size w1.drew w') => show w'.cell? ⟨bz, 0, none⟩ = some (.int .i64 X0) ∧ w'.cell? ⟨bz, 1, none⟩ = some (.int .i64 Y0) ∧ w'.cell? ⟨bz, 2, none⟩ = some (.int .i64 X1) ∧ w'.cell? ⟨bz, 3, none⟩ = some (.int .i64 Y1) from by
    have hbx := (HX1.out.below HD.out).below hb
    exact ⟨hbx.cell 0 rfl, hbx.cell 1 rfl, hbx.cell 2 rfl, hbx.cell 3 rfl⟩)
  clear hbz H2
  go_wp2
  go_region_held3 (fun w' => w'.cell? ⟨bz, 0, none⟩ = some (.int .i64 X0) ∧ w'.cell? ⟨bz, 1, none⟩ = some (.int .i64 Y0) ∧ w'.cell? ⟨bz, 2, none⟩ = some (.int .i64 X1) ∧ w'.cell? ⟨bz, 3, none⟩ = some (.int .i64 Y1))
    (first | exact ⟨x0, x1, x2, x3⟩ | exact hS1 | exact hS2 | go_keep)
    ((first
      | (go_at_call 47; refine (greport_any g a cap n L oa oc O V R _ _ X0 Y0 X1 Y1 _ HI.out.to0 HF.out hn).mono ?_; rintro e wc ⟨ra, m, rc, out, rfl, HIR, HOW, HB3⟩; have hS2 := HKS.out wc (HB2.out.trans (HB3.out.mono HB2.out.size)))
      | (go_at_call 46; refine (gbuild_any a cap n L _ HP.out hn).mono ?_; rintro e wq ⟨g, oa, oc, O, va, v, vc, V, wa, wc, R, rfl, HI, HF, HB2, _⟩; have hS1 := HKS.out wq HB2.out)
      | fail))
  all_goals
    have HBE := Kp.mk (HBB1.out.trans ((HD.out.trans ((HB2.out.trans (HB3.out.mono HB2.out.size)).mono HD.out.size)).mono HBZ.out))
    have HOE := Kp.mk (own_base HOW.out (show bz ≤ _ from Nat.le_trans HBZ.out (Nat.le_trans HD.out.size HB2.out.size)))
    clear hS1 hS2 HB2 HB3 HI HF
    go_wp2
    refine bodyPost_ret (v := .tuple #[.slice ra m rc, .int .i64 0]) (by simp [results, Tryd.results39, go_sem]) rfl ?_
    exact ⟨_, _, _, out, rfl, HIR, ⟨by rw [HBZE.out]; exact HOE.out⟩, ⟨by rw [HBZE.out]; exact HBE.out⟩⟩

end Go.Proofs.YteeeikninigeoaaDoor

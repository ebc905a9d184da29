/- The same expressions: sameExpr. -/
import Derived.Test.YtakabjkhcdkkjaaDoorQryP
namespace Go.Proofs.YtakabjkhcdkkjaaDoor
set_option linter.unusedVariables false
open Go.RowKit

set_option maxRecDepth 100000 in
set_option maxHeartbeats 8000000 in
theorem sameEx_any : ∀ (x : Ex) (v u : ExV) (w : World), IsEx w x v → IsEx w x u →
    Calls Tryd.prog 9 #[.agg (exL v).toArray, .agg (exL u).toArray] w fun e w' => e = .returned (.bool true) ∧ Below w.heap.size w w' := by
  refine Ex.ind ?_
  intro x ih v u w h h'
  obtain ⟨vs, hv, hsl, hvl, hvs⟩ := h.view
  obtain ⟨us, hu, hsl', hul, hus⟩ := h'.view
  have HIH := Kp.mk (fun (i : Nat) (hi : i < x.parts.length) (W : World) (hW : Below w.heap.size w W) => ih _ (List.getElem_mem hi) (vs.getD i ev0) (us.getD i ev0) W ((hvs i hi).below hW) ((hus i hi).below hW))
  have hn3 : x.parts.length ≤ 3 := by cases x <;> simp [Ex.parts]
  rw [hv, hu]
  clear hv hu h h' ih hvs hus
  generalize v.sa = sa at *
  generalize v.cap = cap at *
  generalize u.sa = ta at *
  generalize u.cap = tap at *
  generalize x.kind = k at *
  generalize x.rx0 = a at *
  generalize x.ry0 = b at *
  generalize x.rx1 = c at *
  generalize x.ry1 = d at *
  generalize x.wt = y at *
  generalize x.parts.length = n at *
  show Calls Tryd.prog 9 #[.agg #[.int .i64 k, .int .i64 a, .int .i64 b, .int .i64 c, .int .i64 d, .int .i64 y, .slice sa n cap], .agg #[.int .i64 k, .int .i64 a, .int .i64 b, .int .i64 c, .int .i64 d, .int .i64 y, .slice ta n tap]] w _
  have HSL := Kp.mk hsl
  have HVL := Kp.mk hvl
  have HTL := Kp.mk hsl'
  have HUL := Kp.mk hul
  clear hsl hvl hsl' hul
  obtain ⟨bz, hbz⟩ : ∃ bz, w.heap.size = bz := ⟨_, rfl⟩
  go_enter Tryd.func9, Tryd.ntmps9
  go_upto_region 2 with (fail)
  obtain ⟨w2, hw2⟩ : ∃ w2, (w.alloc (.cells #[.int .i64 k, .int .i64 a, .int .i64 b, .int .i64 c, .int .i64 d, .int .i64 y, .slice sa n cap] 27)).alloc (.cells #[.int .i64 k, .int .i64 a, .int .i64 b, .int .i64 c, .int .i64 d, .int .i64 y, .slice ta n tap] 27) = w2 := ⟨_, rfl⟩
  have HB2 := Kp.mk (show Below w.heap.size w w2 from by rw [← hw2]; exact below_then_alloc (below_alloc (Nat.le_refl _) _) _)
  have HX := Kp.mk (show Box w2 bz #[.int .i64 k, .int .i64 a, .int .i64 b, .int .i64 c, .int .i64 d, .int .i64 y, .slice sa n cap] 27 from by rw [← hw2, ← hbz]; exact (Box.new _ _ _).alloc _)
  have HY := Kp.mk (show Box w2 (bz + 1) #[.int .i64 k, .int .i64 a, .int .i64 b, .int .i64 c, .int .i64 d, .int .i64 y, .slice ta n tap] 27 from by
    have := Box.new (w.alloc (.cells #[.int .i64 k, .int .i64 a, .int .i64 b, .int .i64 c, .int .i64 d, .int .i64 y, .slice sa n cap] 27)) #[.int .i64 k, .int .i64 a, .int .i64 b, .int .i64 c, .int .i64 d, .int .i64 y, .slice ta n tap] 27
    rw [alloc_size, hbz] at this; rw [← hw2]; exact this)
  have HS2 := Kp.mk (SlF.below HSL.out HB2.out)
  have HT2 := Kp.mk (SlF.below HTL.out HB2.out)
  rw [hw2]
  clear hw2 HSL HTL hbz
  go_loopw [5] (fun v wr => ∃ i : Nat, i ≤ n ∧ v = .int .i64 i ∧ Kp (Below w2.heap.size w2 wr)) (fun v _ => n - (intOf v).toNat)
  case atStart => exact ⟨0, Nat.zero_le _, rfl, ⟨Below.refl _ _⟩⟩
  case round =>
    obtain ⟨i, hi, rfl, HB⟩ := hrel
    have x6 : wr.cell? ⟨bz, 6, none⟩ = some (.slice sa n cap) := (HX.out.below HB.out).cell 6 rfl
    have y6 : wr.cell? ⟨bz + 1, 6, none⟩ = some (.slice ta n tap) := (HY.out.below HB.out).cell 6 rfl
    by_cases hin : i < n
    · have hiz : (i : Int) < n := by omega
      have CF := Kp.mk (fun X : Later wr => HIH.out i hin X.val (below_step HB2.out (HB.out.trans (X.le.mono HB.out.size))))
      obtain ⟨sb, so, rfl, hsb, cs⟩ := (HS2.out.below HB.out).at exL_len (by omega) i (by rw [HVL.out]; exact hin)
      obtain ⟨tb, to', rfl, htb, ct⟩ := (HT2.out.below HB.out).at exL_len (by omega) i (by rw [HUL.out]; exact hin)
      rw [← getD_at vs ev0 (by rw [HVL.out]; exact hin)] at cs
      rw [← getD_at us ev0 (by rw [HUL.out]; exact hin)] at ct
      generalize vs.getD i ev0 = U at *
      generalize us.getD i ev0 = V at *
      obtain ⟨uk, ua, ub, uc, ud, ux, uS, un, uq⟩ := U
      obtain ⟨vk, va, vb, vc, vd, vx, vS, vn, vq⟩ := V
      have c0' : wr.cell? ⟨sb, so + i * 7, none⟩ = some (.int .i64 uk) := cs 0 (by omega)
      have c1' : wr.cell? ⟨sb, so + i * 7 + 1, none⟩ = some (.int .i64 ua) := cs 1 (by omega)
      have c2' : wr.cell? ⟨sb, so + i * 7 + 2, none⟩ = some (.int .i64 ub) := cs 2 (by omega)
      have c3' : wr.cell? ⟨sb, so + i * 7 + 3, none⟩ = some (.int .i64 uc) := cs 3 (by omega)
      have c4' : wr.cell? ⟨sb, so + i * 7 + 4, none⟩ = some (.int .i64 ud) := cs 4 (by omega)
      have c5' : wr.cell? ⟨sb, so + i * 7 + 5, none⟩ = some (.int .i64 ux) := cs 5 (by omega)
      have c6' : wr.cell? ⟨sb, so + i * 7 + 6, none⟩ = some (.slice uS un uq) := cs 6 (by omega)
      have d0' : wr.cell? ⟨tb, to' + i * 7, none⟩ = some (.int .i64 vk) := ct 0 (by omega)
      have d1' : wr.cell? ⟨tb, to' + i * 7 + 1, none⟩ = some (.int .i64 va) := ct 1 (by omega)
      have d2' : wr.cell? ⟨tb, to' + i * 7 + 2, none⟩ = some (.int .i64 vb) := ct 2 (by omega)
      have d3' : wr.cell? ⟨tb, to' + i * 7 + 3, none⟩ = some (.int .i64 vc) := ct 3 (by omega)
      have d4' : wr.cell? ⟨tb, to' + i * 7 + 4, none⟩ = some (.int .i64 vd) := ct 4 (by omega)
      have d5' : wr.cell? ⟨tb, to' + i * 7 + 5, none⟩ = some (.int .i64 vx) := ct 5 (by omega)
      have d6' : wr.cell? ⟨tb, to' + i * 7 + 6, none⟩ = some (.slice vS vn vq) := ct 6 (by omega)
      clear cs ct hsb htb
      have lc0 := later_cell c0'
      have lc1 := later_cell c1'
      have lc2 := later_cell c2'
      have lc3 := later_cell c3'
      have lc4 := later_cell c4'
      have lc5 := later_cell c5'
      have lc6 := later_cell c6'
      have ld0 := later_cell d0'
      have ld1 := later_cell d1'
      have ld2 := later_cell d2'
      have ld3 := later_cell d3'
      have ld4 := later_cell d4'
      have ld5 := later_cell d5'
      have ld6 := later_cell d6'
      have lx6 := later_cell x6
      have ly6 := later_cell y6
      clear c0' c1' c2' c3' c4' c5' c6' d0' d1' d2' d3' d4' d5' d6'
      go_wp2
      refine region_later (by kernel_rfl) (by kernel_rfl) ?_
      iterate 12 (go_big_quiet_step ((go_at_call 9; exact q_later (CF.out _))))
      refine wpQuiet_nil ?_
      rintro w' ⟨xl, rfl⟩
      have HB5 := Kp.mk (HB.out.trans (xl.le.mono HB.out.size))
      go_wp2
      go_roundw
      case rel => exact ⟨i + 1, by omega, by go_num, HB5⟩
      case measure => simp [intOf]; omega
    · obtain rfl : i = n := by omega
      go_wp2
      go_ret
      exact ⟨rfl, below_step HB2.out HB.out⟩

end Go.Proofs.YtakabjkhcdkkjaaDoor

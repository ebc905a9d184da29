/- Package query: near, fault: the walks. -/
import Derived.Test.YtakabjkhcdkkjaaDoorQryP
namespace Go.Proofs.YtakabjkhcdkkjaaDoor
set_option linter.unusedVariables false
open Go.RowKit

set_option maxHeartbeats 1000000 in
theorem qnear_any (n : Int) (h1 : -1048576 ≤ n) (h2 : n ≤ 1048576) (w : World) : Calls Tryd.prog 19 #[.int .i64 n] w fun e w' => e = .returned (.bool true) ∧ w = w' := by
  go_enter Tryd.func19, Tryd.ntmps19
  go_wp2
  go_ret
  exact ⟨by simp [*], rfl⟩

set_option maxRecDepth 100000 in
set_option maxHeartbeats 8000000 in
theorem fault_any : ∀ (x : Ex) (deep : Nat) (v : ExV) (w : World), IsEx w x v → x.small → x.dep + deep ≤ 8 →
    Calls Tryd.prog 12 #[.agg (exL v).toArray, .int .i64 (deep : Int)] w fun e w' => e = .returned (.int .i64 0) ∧ Below w.heap.size w w' := by
  refine Ex.ind ?_
  intro x ih deep v w h hs hd
  obtain ⟨vs, hv, hsl, hvl, hvs⟩ := h.view
  have HIH := Kp.mk (fun (i : Nat) (hi : i < x.parts.length) (W : World) (hW : Below w.heap.size w W) => ih _ (List.getElem_mem hi) (deep + 1) (vs.getD i ev0) W ((hvs i hi).below hW) (Ex.small_part hs (List.getElem_mem hi)) (by have := Ex.dep_part (List.getElem_mem hi); omega))
  have hsh := x.shape
  have hsr := Ex.small_rect hs
  have hdp := x.dep_pos
  have hd8 : deep < 8 := by omega
  rw [hv]
  clear hv h hs ih hvs hd hdp
  generalize v.sa = sa at *
  generalize v.cap = cap at *
  generalize x.kind = k at *
  generalize x.rx0 = a at *
  generalize x.ry0 = b at *
  generalize x.rx1 = c at *
  generalize x.ry1 = d at *
  generalize x.wt = y at *
  generalize x.parts.length = n at *
  show Calls Tryd.prog 12 #[.agg #[.int .i64 k, .int .i64 a, .int .i64 b, .int .i64 c, .int .i64 d, .int .i64 y, .slice sa n cap], .int .i64 (deep : Int)] w _
  obtain ⟨⟨a1, a2⟩, ⟨b1, b2⟩, ⟨c1, c2⟩, ⟨d1, d2⟩, y1, y2⟩ := hsr
  have hdz : (deep : Int) < 8 := by omega
  have ed : IntKind.i64.wrap ((deep : Int) + 1) = ((deep + 1 : Nat) : Int) := by rw [Int.natCast_add]; exact IntWalk.i64_in _ (by omega)
  have HSH := Kp.mk hsh
  have HSL := Kp.mk hsl
  have HVL := Kp.mk hvl
  have N1 := Kp.mk (qnear_any a (by omega) (by omega))
  have N2 := Kp.mk (qnear_any b (by omega) (by omega))
  have N3 := Kp.mk (qnear_any c (by omega) (by omega))
  have N4 := Kp.mk (qnear_any d (by omega) (by omega))
  have N5 := Kp.mk (qnear_any y (by omega) (by omega))
  clear hsh hsl hvl a1 a2 b1 b2 c1 c2 d1 d2 y1 y2
  obtain ⟨bz, hbz⟩ : ∃ bz, w.heap.size = bz := ⟨_, rfl⟩
  go_enter Tryd.func12, Tryd.ntmps12
  go_upto_region 3 with (fail)
  obtain ⟨w2, hw2⟩ : ∃ w2, (w.alloc (.cells #[.int .i64 k, .int .i64 a, .int .i64 b, .int .i64 c, .int .i64 d, .int .i64 y, .slice sa n cap] 27)).alloc (.cells #[.int .i64 a, .int .i64 b, .int .i64 c, .int .i64 d] 24) = w2 := ⟨_, rfl⟩
  have HB2 := Kp.mk (show Below w.heap.size w w2 from by rw [← hw2]; exact below_then_alloc (below_alloc (Nat.le_refl _) _) _)
  have b1 : Box w2 bz #[.int .i64 k, .int .i64 a, .int .i64 b, .int .i64 c, .int .i64 d, .int .i64 y, .slice sa n cap] 27 := by rw [← hw2, ← hbz]; exact (Box.new _ _ _).alloc _
  have b2 : Box w2 (bz + 1) #[.int .i64 a, .int .i64 b, .int .i64 c, .int .i64 d] 24 := by
    have := Box.new (w.alloc (.cells #[.int .i64 k, .int .i64 a, .int .i64 b, .int .i64 c, .int .i64 d, .int .i64 y, .slice sa n cap] 27)) #[.int .i64 a, .int .i64 b, .int .i64 c, .int .i64 d] 24
    rw [alloc_size, hbz] at this; rw [← hw2]; exact this
  have HS2 := Kp.mk (SlF.below HSL.out HB2.out)
  rw [hw2]
  have x0 : w2.cell? ⟨bz, 0, none⟩ = some (.int .i64 k) := b1.cell 0 rfl
  have x5 : w2.cell? ⟨bz, 5, none⟩ = some (.int .i64 y) := b1.cell 5 rfl
  have x6 : w2.cell? ⟨bz, 6, none⟩ = some (.slice sa n cap) := b1.cell 6 rfl
  have y0 : w2.cell? ⟨bz + 1, 0, none⟩ = some (.int .i64 a) := b2.cell 0 rfl
  have y1 : w2.cell? ⟨bz + 1, 1, none⟩ = some (.int .i64 b) := b2.cell 1 rfl
  have y2 : w2.cell? ⟨bz + 1, 2, none⟩ = some (.int .i64 c) := b2.cell 2 rfl
  have y3 : w2.cell? ⟨bz + 1, 3, none⟩ = some (.int .i64 d) := b2.cell 3 rfl
  have HBZ := Kp.mk hbz
  clear hw2 b1 b2 HSL hbz
  rcases HSH.out with ⟨rfl, rfl, rfl⟩ | ⟨rfl, rfl, rfl, rfl, rfl, rfl⟩ | ⟨rfl | rfl, rfl | rfl, rfl, rfl, rfl, rfl, rfl⟩ | ⟨rfl, rfl, rfl, rfl, rfl, rfl, rfl⟩
  all_goals
    clear HSH
    go_upto_region 16 with (first
      | (go_at_call 19; with_reducible refine (N1.out _).mono ?_; rintro e w' ⟨rfl, rfl⟩)
      | (go_at_call 19; with_reducible refine (N2.out _).mono ?_; rintro e w' ⟨rfl, rfl⟩)
      | (go_at_call 19; with_reducible refine (N3.out _).mono ?_; rintro e w' ⟨rfl, rfl⟩)
      | (go_at_call 19; with_reducible refine (N4.out _).mono ?_; rintro e w' ⟨rfl, rfl⟩)
      | (go_at_call 19; with_reducible refine (N5.out _).mono ?_; rintro e w' ⟨rfl, rfl⟩)
      | fail)
  all_goals
    obtain ⟨n, x6n, hn3, HIHn, HSn, HVn⟩ : ∃ n : Nat, w2.cell? ⟨bz, 6, none⟩ = some (.slice sa n cap) ∧ n ≤ 3 ∧ Kp (∀ (i : Nat), i < n → ∀ (W : World), Below w.heap.size w W → Calls Tryd.prog 12 #[.agg (exL (vs.getD i ev0)).toArray, .int .i64 ((deep + 1 : Nat) : Int)] W fun e w' => e = .returned (.int .i64 0) ∧ Below W.heap.size W w') ∧ Kp (SlF exL 7 w2 sa n cap vs) ∧ Kp (vs.length = n) := ⟨_, x6, by omega, HIH, HS2, HVL⟩
    clear x6 HIH HS2 HVL N1 N2 N3 N4 N5 x0 x5 y0 y1 y2 y3
    obtain ⟨wo, rfl⟩ : ∃ wo : World, wo = w2 := ⟨_, rfl⟩
    go_wp2
    go_loopw [103] (fun v wr => ∃ i : Nat, i ≤ n ∧ v = .int .i64 i ∧ Kp (Below wo.heap.size wo wr)) (fun v _ => n - (intOf v).toNat)
    case atStart => exact ⟨0, Nat.zero_le _, rfl, ⟨Below.refl _ _⟩⟩
    case round =>
      obtain ⟨i, hi, rfl, HB⟩ := hrel
      by_cases hin : i < n
      · have hiz : (i : Int) < n := by omega
        have e1 : IntKind.i64.wrap ((i : Int) + 1) = ((i + 1 : Nat) : Int) := by rw [Int.natCast_add]; exact IntWalk.i64_in _ (by omega)
        have HCI := Kp.mk (fun W hW => HIHn.out i hin W hW)
        obtain ⟨sb, so, rfl, hsb, cs⟩ := (HSn.out.below HB.out).at exL_len (by omega) i (by rw [HVn.out]; exact hin)
        rw [← getD_at vs ev0 (by rw [HVn.out]; exact hin)] at cs
        generalize vs.getD i ev0 = U at *
        obtain ⟨uk, ua, ub, uc, ud, ux, us, un, uq⟩ := U
        have c0 : wr.cell? ⟨sb, so + i * 7, none⟩ = some (.int .i64 uk) := cs 0 (by omega)
        have c1 : wr.cell? ⟨sb, so + i * 7 + 1, none⟩ = some (.int .i64 ua) := cs 1 (by omega)
        have c2 : wr.cell? ⟨sb, so + i * 7 + 2, none⟩ = some (.int .i64 ub) := cs 2 (by omega)
        have c3 : wr.cell? ⟨sb, so + i * 7 + 3, none⟩ = some (.int .i64 uc) := cs 3 (by omega)
        have c4 : wr.cell? ⟨sb, so + i * 7 + 4, none⟩ = some (.int .i64 ud) := cs 4 (by omega)
        have c5 : wr.cell? ⟨sb, so + i * 7 + 5, none⟩ = some (.int .i64 ux) := cs 5 (by omega)
        have c6 : wr.cell? ⟨sb, so + i * 7 + 6, none⟩ = some (.slice us un uq) := cs 6 (by omega)
        clear cs hsb
        go_upto_region 19 with (fail)
        have hB4 := below_then_alloc HB.out (.cells #[.int .i64 uk, .int .i64 ua, .int .i64 ub, .int .i64 uc, .int .i64 ud, .int .i64 ux, .slice us un uq] 27)
        have b4 := Box.new wr #[.int .i64 uk, .int .i64 ua, .int .i64 ub, .int .i64 uc, .int .i64 ud, .int .i64 ux, .slice us un uq] 27
        obtain ⟨w4, hw4⟩ : ∃ w4, wr.alloc (.cells #[.int .i64 uk, .int .i64 ua, .int .i64 ub, .int .i64 uc, .int .i64 ud, .int .i64 ux, .slice us un uq] 27) = w4 := ⟨_, rfl⟩
        obtain ⟨bq, hbq⟩ : ∃ bq, wr.heap.size = bq := ⟨_, rfl⟩
        rw [hw4] at hB4 b4 ⊢
        rw [hbq] at b4
        try simp only [hbq]
        have HB4 := Kp.mk hB4
        have CF := Kp.mk (HCI.out w4 (below_step HB2.out hB4))
        have z0 : w4.cell? ⟨bq, 0, none⟩ = some (.int .i64 uk) := b4.cell 0 rfl
        have z1 : w4.cell? ⟨bq, 1, none⟩ = some (.int .i64 ua) := b4.cell 1 rfl
        have z2 : w4.cell? ⟨bq, 2, none⟩ = some (.int .i64 ub) := b4.cell 2 rfl
        have z3 : w4.cell? ⟨bq, 3, none⟩ = some (.int .i64 uc) := b4.cell 3 rfl
        have z4 : w4.cell? ⟨bq, 4, none⟩ = some (.int .i64 ud) := b4.cell 4 rfl
        have z5 : w4.cell? ⟨bq, 5, none⟩ = some (.int .i64 ux) := b4.cell 5 rfl
        have z6 : w4.cell? ⟨bq, 6, none⟩ = some (.slice us un uq) := b4.cell 6 rfl
        clear b4 hB4 hw4 hbq HCI c0 c1 c2 c3 c4 c5 c6 HSn
        go_wp2_with fail
        refine CF.out.mono ?_
        rintro e w5 ⟨rfl, hb5⟩
        have HB5 := Kp.mk (HB4.out.trans (hb5.mono HB4.out.size))
        clear hb5 CF z0 z1 z2 z3 z4 z5 z6 HB4
        go_wp2
        go_roundw
        case rel => exact ⟨i + 1, by omega, by go_num, HB5⟩
        case measure => simp [intOf]; omega
      · obtain rfl : n = i := by omega
        go_wp2
        go_ret
        exact ⟨rfl, below_step HB2.out HB.out⟩

end Go.Proofs.YtakabjkhcdkkjaaDoor

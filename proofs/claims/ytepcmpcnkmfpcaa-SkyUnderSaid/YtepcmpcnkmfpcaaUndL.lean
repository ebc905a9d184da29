/- SkyUnder: the walk. -/
import Derived.Test.YtepcmpcnkmfpcaaUnd
import Derived.Test.YtepcmpcnkmfpcaaFlatIn
namespace Go.Proofs.Ytepcmpcnkmfpcaa
set_option linter.unusedVariables false
open Go.RowKit

theorem pts_cell {w : World} {a : Option Addr} {n cap : Nat} {L : List Pt} (h : SlF ptL 3 w a n cap L) (i : Nat) (hi : i < n) :
    ∃ b off, a = some ⟨b, off, none⟩ ∧ w.cell? ⟨b, off + i * 3, none⟩ = some (.int .i64 (L.getD i pt0).x) ∧ w.cell? ⟨b, off + i * 3 + 1, none⟩ = some (.int .i64 (L.getD i pt0).y) ∧ w.cell? ⟨b, off + i * 3 + 2, none⟩ = some (.int .i64 (L.getD i pt0).w) := by
  have hl := h.len ptL_len (by omega)
  obtain ⟨b, off, ha, hb, hc⟩ := h.at ptL_len (by omega) i (by omega)
  rw [← getD_at L pt0 (by omega)] at hc
  exact ⟨b, off, ha, hc 0 (by omega), hc 1 (by omega), hc 2 (by omega)⟩
theorem getD_mem (L : List Pt) (i : Nat) (h : i < L.length) : L.getD i pt0 ∈ L := by rw [getD_at _ _ h]; exact List.getElem_mem _

set_option maxRecDepth 100000 in
set_option maxHeartbeats 4000000 in
theorem walk_SkyUnder (a0 : Option Addr) (len0 cap0 : Nat) (z0 : List Int) (a1 a2 : Int) (w : World) (w0 : IsFlat 3 w a0 len0 cap0 z0) (w1 : (Lit.int .i64 a1).wf = true) (w2 : (Lit.int .i64 a2).wf = true) :
    Calls Try.prog 6 #[.slice a0 len0 cap0, .int .i64 a1, .int .i64 a2] w fun e w' => e = .returned (.bool true) ∧ Below w.heap.size w w' := by
  obtain ⟨S, hS, wS, nS⟩ := spots_in w0
  obtain ⟨i1, i2⟩ := wf_bd w1
  obtain ⟨j1, j2⟩ := wf_bd w2
  have C1 := Kp.mk (points_any a0 cap0 len0 60 12 S w hS (by unfold maxLen at nS; omega) (by omega) (by omega) (by omega) wS)
  have HSL := Kp.mk (hS.len ptL_len (by omega))
  clear w0 hS wS w1 w2
  go_enter Try.func6, Try.ntmps6
  go_wp2_with fail
  refine C1.out.mono ?_
  rintro e w1 ⟨sa, sc, r, rfl, HR, HO, hb1⟩
  have HB1 := Kp.mk hb1
  have hr50 : r ≤ 60 := by have := HR.out; rw [ptsOf_length] at this; omega
  have HBD := Kp.mk (ptsOf_bd S 60 12 (by omega))
  have hsz := hb1.size
  generalize ptsOf S 60 12 = P at *
  clear hb1 C1
  go_wp2_with (at_builtin; refine wpList_push tPts rfl _ _ rfl w.heap.size sa r sc _ rfl HO.out 2 2 _ rfl rfl ?d1 (by decide) ?d2 (by decide) hsz ?d4)
  case d1 => simp [Value.oneCell']
  case d2 => omega
  case d4 =>
    intro pa pc w2 ho2 hb2
    obtain ⟨L, hL⟩ : ∃ L : List Pt, L = P ++ [⟨3, 3, 0⟩, ⟨4, 4, 0⟩] := ⟨_, rfl⟩
    generalize hn : r + 2 = n at *
    have HLL := Kp.mk (show L.length = n by rw [hL, List.length_append, HR.out, ← hn]; rfl)
    have HO2 := Kp.mk (show w2.ownsRow w.heap.size 30 3 (.slice pa n pc) n (flat ptL L) from by
      rw [hL, flat_append]
      have e : flat ptL [(⟨3, 3, 0⟩ : Pt), ⟨4, 4, 0⟩] = [.int .i64 3, .int .i64 3, .int .i64 0, .int .i64 4, .int .i64 4, .int .i64 0] := by simp [flat, ptL]
      rw [e]; exact ho2)
    have HP2 := Kp.mk (show SlF ptL 3 w2 pa n pc L from own_slc HO2.out)
    have HB2 := Kp.mk (HB1.out.trans hb2)
    have HNR := Kp.mk (show ∀ p ∈ L, p.Near from fun p hp => by
      rw [hL] at hp
      rcases List.mem_append.1 hp with hp | hp
      · have := HBD.out p hp; unfold Pt.Near; omega
      · simp only [List.mem_cons, List.not_mem_nil, or_false] at hp
        rcases hp with rfl | rfl <;> (unfold Pt.Near; simp))
    have HG1 := Kp.mk (show L.getD (n - 2) pt0 = ⟨3, 3, 0⟩ from by rw [hL, show n - 2 = r by omega]; simp [List.getD, HR.out])
    have HG2 := Kp.mk (show L.getD (n - 1) pt0 = ⟨4, 4, 0⟩ from by rw [hL, show n - 1 = r + 1 by omega]; simp [List.getD, HR.out])
    have hn62 : n ≤ 62 := by omega
    have hn2 : 2 ≤ n := by omega
    clear ho2 hb2 hL HO HBD HO2 hsz hn hr50 HR
    obtain ⟨p, hp, hpl⟩ := pick_nat a1 n (by omega)
    obtain ⟨q, hq, hql⟩ := pick_nat a2 n (by omega)
    have hpn : p < n := by omega
    have hqn : q < n := by omega
    have CP := Kp.mk (fun W => hp ▸ picked_any a1 n W (by omega) (by omega) i1 i2)
    have CQ := Kp.mk (fun W => hq ▸ picked_any a2 n W (by omega) (by omega) j1 j2)
    clear hp hq
    go_wp2_with fail
    refine (CP.out _).mono ?_
    rintro e w' ⟨rfl, rfl⟩
    go_wp2_with fail
    refine (CQ.out _).mono ?_
    rintro e w' ⟨rfl, rfl⟩
    have HU1 := Kp.mk (und_lt L (L.getD p pt0) (getD_mem L p (by rw [HLL.out]; exact hpn)))
    have HU2 := Kp.mk (und_more L (L.getD p pt0) (L.getD q pt0) (getD_mem L q (by rw [HLL.out]; exact hqn)))
    have HU3 := Kp.mk (show 1 ≤ undN L (L.getD (n - 1) pt0) from und_one L _ (L.getD (n - 2) pt0) (getD_mem L _ (by rw [HLL.out]; omega)) (by rw [HG1.out, HG2.out]; unfold Above; simp))
    have HU4 := Kp.mk (und_lt L (L.getD q pt0) (getD_mem L q (by rw [HLL.out]; exact hqn)))
    have D1 := Kp.mk (under_any pa pc n p L w2 HP2.out (by omega) HNR.out hpn)
    have D2 := Kp.mk (fun (W : World) (hb : Below w2.heap.size w2 W) => under_any pa pc n q L W (SlF.below HP2.out hb) (by omega) HNR.out hqn)
    have D3 := Kp.mk (fun (W : World) (hb : Below w2.heap.size w2 W) => under_any pa pc n (n - 1) L W (SlF.below HP2.out hb) (by omega) HNR.out (by omega))
    generalize hx : L.getD p pt0 = x at *
    generalize hy : L.getD q pt0 = y at *
    have HX := Kp.mk hx
    have HY := Kp.mk hy
    generalize undN L x = m1 at *
    generalize undN L y = m2 at *
    generalize undN L (L.getD (n - 1) pt0) = m3 at *
    have en : IntKind.i64.wrap ((n : Int) - 1) = ((n - 1 : Nat) : Int) := by rw [show (n : Int) - 1 = ((n - 1 : Nat) : Int) by omega]; exact IntWalk.i64_in _ (by omega)
    clear hx hy CP CQ HG1 HG2
    go_wp2_with fail
    refine D1.out.mono ?_
    rintro e w3 ⟨rfl, hb3⟩
    have HB3 := Kp.mk hb3
    clear hb3 D1
    go_wp2_with fail
    refine (D2.out w3 HB3.out).mono ?_
    rintro e w4 ⟨rfl, hb4⟩
    have HB4 := Kp.mk (below_step HB3.out hb4)
    clear hb4 D2 HB3
    go_wp2_with fail
    refine (D3.out w4 HB4.out).mono ?_
    rintro e w5 ⟨rfl, hb5⟩
    have HB5 := Kp.mk (below_step HB4.out hb5)
    clear hb5 D3 HB4 en
    have HP5 := Kp.mk (SlF.below HP2.out HB5.out)
    have HBF := Kp.mk (HB2.out.trans (HB5.out.mono HB2.out.size))
    obtain ⟨b, off, rfl, x0, x1, x2⟩ := pts_cell HP5.out p hpn
    obtain ⟨_, _, e1, y0, y1, y2⟩ := pts_cell HP5.out q hqn
    simp only [Option.some.injEq, Addr.mk.injEq, and_true] at e1
    obtain ⟨rfl, rfl⟩ := e1
    rw [HX.out] at x0 x1 x2
    rw [HY.out] at y0 y1 y2
    have r0 := later_cell x0
    have r1 := later_cell x1
    have r2 := later_cell x2
    have s0 := later_cell y0
    have s1 := later_cell y1
    have s2 := later_cell y2
    have hpz : (p : Int) < n := by omega
    have hqz : (q : Int) < n := by omega
    have hu1 := HU1.out
    rw [HLL.out] at hu1
    have hu3 := HU3.out
    have t1 : decide ((1 : Int) ≤ m3) = true := decide_eq_true (by omega)
    have t2 : decide ((0 : Int) ≤ m1) = true := decide_eq_true (by omega)
    have t3 : decide ((m1 : Int) < n) = true := decide_eq_true (by omega)
    by_cases hab : Above x y
    · have hu2 := HU2.out hab
      have t4 : decide ((m2 : Int) < m1) = true := decide_eq_true (by omega)
      have CA := Kp.mk (fun W => pabove_t x y hab W)
      clear hab HU1 HU2 HU3 HU4 x0 x1 x2 y0 y1 y2
      go_wp2
      refine region_later (by kernel_rfl) (by kernel_rfl) ?_
      iterate 42 (go_big_quiet_step ((go_at_call 21; exact q_later (CA.out _))))
      refine wpQuiet_nil ?_
      rintro w' ⟨xl, rfl⟩
      have HB7 := Kp.mk (below_step HBF.out xl.le)
      clear r0 r1 r2 s0 s1 s2 CA
      go_wp2
      go_ret
      exact ⟨rfl, HB7.out⟩
    · have CA := Kp.mk (fun W => pabove_f x y hab W)
      clear hab HU1 HU2 HU3 HU4 x0 x1 x2 y0 y1 y2
      go_wp2
      refine region_later (by kernel_rfl) (by kernel_rfl) ?_
      iterate 42 (go_big_quiet_step ((go_at_call 21; exact q_later (CA.out _))))
      refine wpQuiet_nil ?_
      rintro w' ⟨xl, rfl⟩
      have HB7 := Kp.mk (below_step HBF.out xl.le)
      clear r0 r1 r2 s0 s1 s2 CA
      go_wp2
      go_ret
      exact ⟨rfl, HB7.out⟩

end Go.Proofs.Ytepcmpcnkmfpcaa

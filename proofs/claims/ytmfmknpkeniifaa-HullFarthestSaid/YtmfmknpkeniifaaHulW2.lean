/- HullFarthest: the walk. -/
import Derived.Test.YtmfmknpkeniifaaHulF
import Derived.Test.YtmfmknpkeniifaaFlatIn
namespace Go.Proofs.Ytmfmknpkeniifaa
set_option linter.unusedVariables false
open Go.RowKit

/-- The greatest of the first k. -/
def topF (a b : Int) (D : List Pt) : Nat → Int
  | 0 => farP a b (D.getD 0 pt0)
  | k + 1 => max (topF a b D k) (farP a b (D.getD k pt0))
theorem topF_zero (a b : Int) (D : List Pt) : topF a b D 0 = farP a b (D.getD 0 pt0) := rfl
theorem topF_succ (a b : Int) (D : List Pt) (k : Nat) : topF a b D (k + 1) = max (topF a b D k) (farP a b (D.getD k pt0)) := rfl
theorem topF_ge (a b : Int) (D : List Pt) : ∀ k i, i < k → farP a b (D.getD i pt0) ≤ topF a b D k := by
  intro k
  induction k with
  | zero => intro i h; omega
  | succ k ih =>
    intro i h
    rw [topF_succ]
    by_cases e : i = k
    · rw [e]; omega
    · have := ih i (by omega); omega
theorem topF_is (a b : Int) (D : List Pt) : ∀ k, ∃ i, (i = 0 ∨ i < k) ∧ topF a b D k = farP a b (D.getD i pt0) := by
  intro k
  induction k with
  | zero => exact ⟨0, .inl rfl, rfl⟩
  | succ k ih =>
    obtain ⟨i, h1, h2⟩ := ih
    rw [topF_succ]
    by_cases h : topF a b D k ≤ farP a b (D.getD k pt0)
    · exact ⟨k, .inr (by omega), by omega⟩
    · exact ⟨i, by omega, by omega⟩
theorem farP_sum (a b : Int) (p : Pt) : a * p.x + b * p.y = farP a b p := by unfold farP; rfl
theorem hull_near {L D : List Pt} (h : IsHull L D) (hN : ∀ p ∈ L, p.Near) : ∀ i, i < D.length → (D.getD i pt0).Near := fun i hi => hN _ (h.sub i hi)
theorem top_best {L D : List Pt} {a b : Int} {n M best : Nat} (h : IsHull L D) (hn : D.length = n) (hL : L.length = M) (hb : best < M) (hf : ∀ j, j < M → farP a b (L.getD j pt0) ≤ farP a b (L.getD best pt0)) : farP a b (L.getD best pt0) = topF a b D n := by
  have hm : L.getD best pt0 ∈ L := by rw [getD_at _ _ (by omega)]; exact List.getElem_mem _
  obtain ⟨i, hi, hle⟩ := h.far a b _ hm
  rw [farP_sum, farP_sum] at hle
  have h1 := topF_ge a b D n i (by omega)
  obtain ⟨k, hk, e⟩ := topF_is a b D n
  have h0 := h.len
  have h2 : D.getD k pt0 ∈ L := h.sub k (by omega)
  obtain ⟨j, hj, e2⟩ := List.getElem_of_mem h2
  have h3 := hf j (by omega)
  rw [getD_at L pt0 hj, e2] at h3
  omega
attribute [irreducible] topF

set_option maxRecDepth 100000 in
set_option maxHeartbeats 16000000 in
theorem walk_HullFarthest (a0 : Option Addr) (len0 cap0 : Nat) (z0 : List Int) (a1 : Int) (a2 : Int) (w : World) (w0 : IsFlat 3 w a0 len0 cap0 z0) (w1 : (Lit.int .i64 a1).wf = true) (w2 : (Lit.int .i64 a2).wf = true) :
    Calls Try.prog 13 #[.slice a0 len0 cap0, .int .i64 a1, .int .i64 a2] w fun e w' => e = .returned (.bool true) ∧ Below w.heap.size w w' := by
  obtain ⟨S, hS, wS, nS⟩ := spots_in w0
  obtain ⟨i1, i2⟩ := wf_bd w1
  obtain ⟨i3, i4⟩ := wf_bd w2
  have CP := Kp.mk (points_any a0 cap0 len0 60 40 S w hS (by unfold maxLen at nS; omega) (by omega) (by omega) (by omega) wS)
  obtain ⟨q1, hq1, l1, l2⟩ : ∃ q, pick a1 41 = q ∧ 0 ≤ q ∧ q < 41 := ⟨_, rfl, pick_bd a1 41 (by omega)⟩
  obtain ⟨q2, hq2, l3, l4⟩ : ∃ q, pick a2 41 = q ∧ 0 ≤ q ∧ q < 41 := ⟨_, rfl, pick_bd a2 41 (by omega)⟩
  have CA := Kp.mk (fun W => hq1 ▸ picked_any a1 41 W (by omega) (by omega) i1 i2)
  have CB := Kp.mk (fun W => hq2 ▸ picked_any a2 41 W (by omega) (by omega) i3 i4)
  clear w0 w1 w2 hS wS hq1 hq2
  go_enter Try.func13, Try.ntmps13
  go_wp2_with fail
  refine CP.out.mono ?_
  rintro e w1 ⟨sa, sc, r, rfl, HR, HO, hb1⟩
  have HB1 := Kp.mk hb1
  have hr60 : r ≤ 60 := by have := HR.out; rw [ptsOf_length] at this; omega
  have HBD := Kp.mk (ptsOf_bd S 60 40 (by omega))
  have hsz := hb1.size
  generalize ptsOf S 60 40 = P at *
  clear hb1 CP
  go_wp2_with (at_builtin; refine wpList_push tPts rfl _ _ rfl w.heap.size sa r sc _ rfl HO.out 1 1 _ rfl rfl ?d1 (by decide) ?d2 (by decide) hsz ?d4)
  case d1 => simp [Value.oneCell']
  case d2 => omega
  case d4 =>
    intro pa pc w2 ho2 hb2
    obtain ⟨L, hL⟩ : ∃ L : List Pt, L = P ++ [⟨3, 5, 0⟩] := ⟨_, rfl⟩
    have HLL := Kp.mk (show L.length = r + 1 by rw [hL, List.length_append, HR.out]; rfl)
    have HO2 := Kp.mk (show w2.ownsRow w.heap.size 26 3 (.slice pa (r + 1) pc) (r + 1) (flat ptL L) from by
      rw [hL, flat_append]
      have e : flat ptL [(⟨3, 5, 0⟩ : Pt)] = [.int .i64 3, .int .i64 5, .int .i64 0] := by simp [flat, ptL]
      rw [e]; exact ho2)
    have HP2 := Kp.mk (show SlF ptL 3 w2 pa (r + 1) pc L from own_slc HO2.out)
    have HB2 := Kp.mk (HB1.out.trans hb2)
    have HNR := Kp.mk (show ∀ p ∈ L, p.Near from fun p hp => by
      rw [hL] at hp
      rcases List.mem_append.1 hp with hp | hp
      · have := HBD.out p hp; unfold Pt.Near; omega
      · rw [List.mem_singleton.1 hp]; unfold Pt.Near; simp)
    clear ho2 hb2 hL HO HBD HO2 hsz HR
    go_wp2_with (go_at_call 19; (first | (with_reducible refine (CA.out _).mono ?_) | (with_reducible refine (CB.out _).mono ?_)); rintro e w' ⟨rfl, rfl⟩)
    have C2 := Kp.mk (fenced_any pa pc r L w2 HP2.out (by omega) HNR.out)
    clear CA CB
    have er1 : IntKind.i64.wrap (q1 - 20) = q1 - 20 := IntWalk.i64_in _ (by omega)
    have er2 : IntKind.i64.wrap (q2 - 20) = q2 - 20 := IntWalk.i64_in _ (by omega)
    obtain ⟨dx, hdx⟩ : ∃ dx, dx = q1 - 20 := ⟨_, rfl⟩
    obtain ⟨dy, hdy⟩ : ∃ dy, dy = q2 - 20 := ⟨_, rfl⟩
    have HDX := Kp.mk (show -1048576 ≤ dx ∧ dx ≤ 1048576 by omega)
    have HDY := Kp.mk (show -1048576 ≤ dy ∧ dy ≤ 1048576 by omega)
    rw [← hdx] at er1
    rw [← hdy] at er2
    have e1 : q1 - 20 = dx := hdx.symm
    have e2 : q2 - 20 = dy := hdy.symm
    clear hdx hdy
    go_wp2_with fail
    refine C2.out.mono ?_
    rintro e w3 ⟨fa, n, fc, D, rfl, HH, HD, hn2k, HF, HB3⟩
    have HP3 := Kp.mk (SlF.below HP2.out HB3.out)
    have HBF := Kp.mk (below_step HB2.out HB3.out)
    have hn0 : 0 < n := by have := HH.out.len; rw [HD.out] at this; exact this
    have hn0f : ((n : Int) == 0) = false := by rw [beq_eq_false_iff_ne]; omega
    have C3 := Kp.mk (far_any pa pc (r + 1) L dx dy w3 HP3.out (by omega) (by omega) HNR.out HDX.out.1 HDX.out.2 HDY.out.1 HDY.out.2)
    clear C2 HP2 HB1 HB2 HB3
    go_wp2_with fail
    refine C3.out.mono ?_
    rintro e w4 ⟨best, rfl, hbM, HBEST, HB4⟩
    have HP4 := Kp.mk (SlF.below HP3.out HB4.out)
    have HF4 := Kp.mk (SlF.below HF.out HB4.out)
    have HBF4 := Kp.mk (below_step HBF.out HB4.out)
    have HDN := Kp.mk (hull_near HH.out HNR.out)
    rw [HD.out] at HDN
    have HEND := Kp.mk (top_best HH.out HD.out HLL.out hbM HBEST.out)
    have HBN := Kp.mk (show (L.getD best pt0).Near from by rw [getD_at _ _ (by rw [HLL.out]; exact hbM)]; exact HNR.out _ (List.getElem_mem _))
    have tb1 : decide ((best : Int) < 0) = false := decide_eq_false (by omega)
    have tb2 : decide ((r : Int) + 1 ≤ best) = false := decide_eq_false (by omega)
    have tb3 : (best : Int) < (r : Int) + 1 := by omega
    clear C3 HP3 HF HB4 HBF HBEST
    obtain ⟨fb, fo, rfl, x0, x1, x2⟩ := pt_cells HF4.out 0 hn0
    simp only [Nat.zero_mul, Nat.add_zero] at x0 x1
    obtain ⟨u1, v1, f1, hf1, k1, k2, k3⟩ := farP_w HDX.out HDY.out (HDN.out 0 hn0)
    have HT0 := Kp.mk (show f1 = topF dx dy D 0 from by rw [topF_zero]; exact hf1)
    clear hf1
    generalize D.getD 0 pt0 = p0 at *
    have m0 := later_cell x0
    have m1 := later_cell x1
    go_wp2
    refine region_later (by kernel_rfl) (by kernel_rfl) ?_
    iterate 14 (go_big_quiet_step (fail))
    refine wpQuiet_nil ?_
    rintro w' ⟨xl, rfl⟩
    have HB6 := Kp.mk (below_step HBF4.out xl.le)
    have HP6 := Kp.mk (SlF.below HP4.out xl.le)
    have HF6 := Kp.mk (SlF.below HF4.out xl.le)
    clear m0 m1 x0 x1 x2 HP4 HF4 HBF4 k1 k2 k3
    generalize xl.val = w6 at *
    obtain ⟨wo, rfl⟩ : ∃ wo : World, wo = w6 := ⟨_, rfl⟩
    go_wp2
    go_loopw [13, 14] (fun t i wr => ∃ (k : Nat), k ≤ n ∧ i = .int .i64 k ∧ t = .int .i64 (topF dx dy D k) ∧ Kp (Below wo.heap.size wo wr)) (fun _ i _ => n - (intOf i).toNat)
    case atStart => exact ⟨0, Nat.zero_le _, rfl, by rw [HT0.out], ⟨Below.refl _ _⟩⟩
    case round =>
      obtain ⟨k, hk, rfl, rfl, HBK⟩ := hrel
      by_cases hlt : k < n
      · obtain ⟨_, _, ee, x0, x1, x2⟩ := pt_cells (SlF.below HF6.out HBK.out) k hlt
        simp only [Option.some.injEq, Addr.mk.injEq, and_true] at ee
        obtain ⟨rfl, rfl⟩ := ee
        obtain ⟨u1, v1, f1, hf1, k1, k2, k3⟩ := farP_w HDX.out HDY.out (HDN.out k hlt)
        have HT1 := Kp.mk (show topF dx dy D (k + 1) = max (topF dx dy D k) f1 from by rw [topF_succ, hf1])
        clear hf1
        generalize D.getD k pt0 = p1 at *
        generalize topF dx dy D k = t at *
        have m0 := later_cell x0
        have m1 := later_cell x1
        go_wp2
        refine region_later (by kernel_rfl) (by kernel_rfl) ?_
        iterate 18 (go_big_quiet_step (fail))
        refine wpQuiet_nil ?_
        rintro w' ⟨xl, rfl⟩
        have HBN2 := Kp.mk (HBK.out.trans (xl.le.mono HBK.out.size))
        clear m0 m1 x0 x1 x2 k1 k2 k3
        go_wp2
        go_roundw
        case rel => exact ⟨k + 1, by omega, by go_num, by rw [HT1.out], HBN2⟩
        case measure => simp [intOf]; omega
      · obtain rfl : k = n := by omega
        obtain ⟨pb, po, rfl, x0, x1, x2⟩ := pt_cells (SlF.below HP6.out HBK.out) best hbM
        obtain ⟨u1, v1, f1, hf1, k1, k2, k3⟩ := farP_w HDX.out HDY.out HBN.out
        rw [← hf1] at HEND
        rw [← HEND.out]
        clear hf1
        generalize L.getD best pt0 = p1 at *
        have m0 := later_cell x0
        have m1 := later_cell x1
        go_wp2
        refine region_later (by kernel_rfl) (by kernel_rfl) ?_
        iterate 18 (go_big_quiet_step (fail))
        refine wpQuiet_nil ?_
        rintro w' ⟨xl, rfl⟩
        have HBN2 := Kp.mk (below_step HB6.out (HBK.out.trans (xl.le.mono HBK.out.size)))
        clear m0 m1 x0 x1 x2 k1 k2 k3
        go_wp2
        go_ret
        exact ⟨rfl, HBN2.out⟩

end Go.Proofs.Ytmfmknpkeniifaa

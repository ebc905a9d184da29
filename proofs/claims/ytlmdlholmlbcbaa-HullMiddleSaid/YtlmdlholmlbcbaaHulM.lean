/- HullMiddle: the walk. -/
import Derived.Test.YtlmdlholmlbcbaaHulB
import Derived.Test.YtlmdlholmlbcbaaFlatS
import Derived.Test.YtlmdlholmlbcbaaFlatIn
namespace Go.Proofs.Ytlmdlholmlbcbaa
set_option linter.unusedVariables false
open Go.RowKit
open Pick (crn nxt areaS InHull)

/-- Twice as far out. -/
def dbl (p : Pt) : Pt := ⟨p.x * 2, p.y * 2, p.w⟩
def dblK (L : List Pt) (k : Nat) : List Pt := (L.take k).map dbl ++ L.drop k
theorem dblK_zero (L : List Pt) : dblK L 0 = L := by simp [dblK]
theorem dblK_length (L : List Pt) (k : Nat) : (dblK L k).length = L.length := by unfold dblK; simp; omega
theorem dblK_at (L : List Pt) (k : Nat) (hk : k < L.length) : (dblK L k).getD k pt0 = L.getD k pt0 := by
  unfold dblK
  have hl : ((L.take k).map dbl).length = k := by rw [List.length_map, List.length_take]; omega
  rw [getD_at _ _ (by rw [List.length_append, hl, List.length_drop]; omega), List.getElem_append_right (by omega), getD_at _ _ hk, List.getElem_drop]
  congr 1; omega
theorem dblK_succ (L : List Pt) (k : Nat) (hk : k < L.length) : dblK L (k + 1) = (dblK L k).set k (dbl (L.getD k pt0)) := by
  unfold dblK
  have hl : ((L.take k).map dbl).length = k := by rw [List.length_map, List.length_take]; omega
  rw [List.set_append_right _ _ (by omega), hl, Nat.sub_self, List.take_succ_eq_append_getElem hk, List.map_append, getD_at _ _ hk]
  have e : L.drop k = L[k] :: L.drop (k + 1) := (List.getElem_cons_drop ..).symm
  rw [e, List.set_cons_zero]
  simp
theorem dblK_all (L : List Pt) : dblK L L.length = L.map dbl := by simp [dblK]
theorem dbl_step (M : List Pt) (k : Nat) (p : Pt) (hk : k < M.length) (hp : M.getD k pt0 = p) : (M.set k ⟨p.x * 2, (M.getD k pt0).y, (M.getD k pt0).w⟩).set k ⟨((M.set k ⟨p.x * 2, (M.getD k pt0).y, (M.getD k pt0).w⟩).getD k pt0).x, p.y * 2, ((M.set k ⟨p.x * 2, (M.getD k pt0).y, (M.getD k pt0).w⟩).getD k pt0).w⟩ = M.set k (dbl p) := by
  rw [hp]
  have e : (M.set k ⟨p.x * 2, p.y, p.w⟩).getD k pt0 = ⟨p.x * 2, p.y, p.w⟩ := by
    rw [getD_at _ _ (by rw [List.length_set]; exact hk), List.getElem_set_self]
  rw [e, List.set_set]; rfl
attribute [irreducible] dblK
attribute [local irreducible] areaS

set_option maxRecDepth 100000 in
set_option maxHeartbeats 16000000 in
theorem walk_HullMiddle (a0 : Option Addr) (len0 cap0 : Nat) (z0 : List Int) (a1 : Int) (a2 : Int) (a3 : Int) (a4 : Int) (w : World) (w0 : IsFlat 3 w a0 len0 cap0 z0) (w1 : (Lit.int .i64 a1).wf = true) (w2 : (Lit.int .i64 a2).wf = true) (w3 : (Lit.int .i64 a3).wf = true) (w4 : (Lit.int .i64 a4).wf = true) :
    Calls Try.prog 6 #[.slice a0 len0 cap0, .int .i64 a1, .int .i64 a2, .int .i64 a3, .int .i64 a4] w fun e w' => e = .returned (.bool true) ∧ Below w.heap.size w w' := by
  obtain ⟨S, hS, wS, nS⟩ := spots_in w0
  obtain ⟨i1, i2⟩ := wf_bd w1
  obtain ⟨i3, i4⟩ := wf_bd w2
  obtain ⟨i5, i6⟩ := wf_bd w3
  obtain ⟨i7, i8⟩ := wf_bd w4
  have C1 := Kp.mk (points_any a0 cap0 len0 40 40 S w hS (by unfold maxLen at nS; omega) (by omega) (by omega) (by omega) wS)
  obtain ⟨zx, hzx, lzx⟩ : ∃ q, pick a3 100 = q ∧ 0 ≤ q ∧ q < 100 := ⟨_, rfl, pick_bd a3 100 (by omega)⟩
  obtain ⟨zy, hzy, lzy⟩ : ∃ q, pick a4 100 = q ∧ 0 ≤ q ∧ q < 100 := ⟨_, rfl, pick_bd a4 100 (by omega)⟩
  have CX := Kp.mk (fun W => hzx ▸ picked_any a3 100 W (by omega) (by omega) i5 i6)
  have CY := Kp.mk (fun W => hzy ▸ picked_any a4 100 W (by omega) (by omega) i7 i8)
  clear w0 w3 w4 hS wS hzx hzy
  go_enter Try.func6, Try.ntmps6
  go_wp2_with fail
  refine C1.out.mono ?_
  rintro e w1 ⟨sa, sc, r, rfl, HR, HO, hb1⟩
  have HB1 := Kp.mk hb1
  have hr60 : r ≤ 40 := by have := HR.out; rw [ptsOf_length] at this; omega
  have HBD := Kp.mk (ptsOf_bd S 40 40 (by omega))
  have hsz := hb1.size
  generalize ptsOf S 40 40 = P at *
  clear hb1 C1
  go_wp2_with (at_builtin; refine wpList_push tPts rfl _ _ rfl w.heap.size sa r sc _ rfl HO.out 1 1 _ rfl rfl ?d1 (by decide) ?d2 (by decide) hsz ?d4)
  case d1 => simp [Value.oneCell']
  case d2 => omega
  case d4 =>
    intro pa pc w2 ho2 hb2
    obtain ⟨L, hL⟩ : ∃ L : List Pt, L = P ++ [⟨3, 5, 0⟩] := ⟨_, rfl⟩
    obtain ⟨n, hn⟩ : ∃ n, n = r + 1 := ⟨_, rfl⟩
    rw [← hn] at ho2 ⊢
    have HLL := Kp.mk (show L.length = n by rw [hL, List.length_append, HR.out, hn]; rfl)
    have HO2 := Kp.mk (show w2.ownsRow w.heap.size 41 3 (.slice pa n pc) n (flat ptL L) from by
      rw [hL, flat_append]
      have e : flat ptL [(⟨3, 5, 0⟩ : Pt)] = [.int .i64 3, .int .i64 5, .int .i64 0] := by simp [flat, ptL]
      rw [e]; exact ho2)
    have HB2 := Kp.mk (HB1.out.trans hb2)
    have HLD := Kp.mk (show ∀ p ∈ L, (0 ≤ p.x ∧ p.x < 40) ∧ (0 ≤ p.y ∧ p.y < 40) ∧ (0 ≤ p.w ∧ p.w < 20) from fun p hp => by
      rw [hL] at hp
      rcases List.mem_append.1 hp with hp | hp
      · have := HBD.out p hp; omega
      · rw [List.mem_singleton.1 hp]; simp)
    obtain ⟨g, rfl, hg, hg2⟩ := own_some HO2.out (by omega)
    have hnb : n ≤ 41 := by omega
    have hn0 : 0 < n := by omega
    clear ho2 hb2 hL HO HBD hsz HR HB1 hn
    go_wp2
    go_loopw [12] (fun i wr => ∃ (k : Nat), k ≤ n ∧ i = .int .i64 k ∧ Kp (wr.ownsRow w.heap.size 41 3 (.slice (some ⟨g, 0, none⟩) n pc) n (flat ptL (dblK L k))) ∧ Kp (Below w.heap.size w wr)) (fun i _ => n - (intOf i).toNat)
    case atStart => exact ⟨0, Nat.zero_le _, rfl, ⟨by rw [dblK_zero]; exact HO2.out⟩, HB2⟩
    case round =>
      clear HO2 HB2
      obtain ⟨k, hk, rfl, HO, HB⟩ := hrel
      by_cases hlt : k < n
      · have hkL : k < L.length := by rw [HLL.out]; exact hlt
        have hkD : k < (dblK L k).length := by rw [dblK_length]; exact hkL
        have hat := dblK_at L k hkL
        obtain ⟨x0, x1, x2⟩ := own_pt HO.out k hlt
        rw [hat] at x0 x1 x2
        have hbp := HLD.out (L.getD k pt0) (by rw [getD_at _ _ hkL]; exact List.getElem_mem _)
        have f0 := HO.out.frozenAt (k * 3)
        have f1 := HO.out.frozenAt (k * 3 + 1)
        have HS := Kp.mk (dblK_succ L k hkL)
        obtain ⟨p, hp⟩ : ∃ p, L.getD k pt0 = p := ⟨_, rfl⟩
        rw [hp] at x0 x1 x2 hbp hat HS
        have HN7 := Kp.mk (show ((wr.setCell ⟨g, k * 3, none⟩ (.int .i64 (p.x * 2))).setCell ⟨g, k * 3 + 1, none⟩ (.int .i64 (p.y * 2))).ownsRow w.heap.size 41 3 (.slice (some ⟨g, 0, none⟩) n pc) n (flat ptL (dblK L (k + 1))) from by
          have h1 := (HO.out.stored (k * 3) (.int .i64 (p.x * 2))).1
          rw [flat_setx _ _ _ hkD] at h1
          have h2 := (h1.stored (k * 3 + 1) (.int .i64 (p.y * 2))).1
          rw [flat_sety _ _ _ (by rw [List.length_set]; exact hkD), dbl_step _ _ p hkD hat, ← HS.out] at h2
          exact h2)
        have HB7 := Kp.mk (show Below w.heap.size w ((wr.setCell ⟨g, k * 3, none⟩ (.int .i64 (p.x * 2))).setCell ⟨g, k * 3 + 1, none⟩ (.int .i64 (p.y * 2))) from (HB.out.setCell (p := ⟨g, k * 3, none⟩) hg _).setCell (p := ⟨g, k * 3 + 1, none⟩) hg _)
        obtain ⟨px, py, pw⟩ := p
        dsimp only at x0 x1 x2 hbp HN7 HB7
        have e1 : IntKind.i64.wrap (px * 2) = px * 2 := IntWalk.i64_in _ (by omega)
        have e2 : IntKind.i64.wrap (py * 2) = py * 2 := IntWalk.i64_in _ (by omega)
        clear hp hat hkL hkD HO
        go_wp2
        go_roundw
        case rel => exact ⟨k + 1, by omega, by go_num, HN7, HB7⟩
        case measure => simp [intOf]; omega
      · obtain rfl : k = n := by omega
        obtain ⟨M, hM⟩ : ∃ M, M = L.map dbl := ⟨_, rfl⟩
        have HO3 := Kp.mk (show wr.ownsRow w.heap.size 41 3 (.slice (some ⟨g, 0, none⟩) k pc) k (flat ptL M) from by
          have := HO.out
          rw [← HLL.out, dblK_all, ← hM, HLL.out] at this
          exact this)
        have HML := Kp.mk (show M.length = k by rw [hM, List.length_map]; exact HLL.out)
        have HMD := Kp.mk (show ∀ i, i < k → ∃ u v : Int, (M.getD i pt0).x = 2 * u ∧ (M.getD i pt0).y = 2 * v ∧ 0 ≤ u ∧ u < 40 ∧ 0 ≤ v ∧ v < 40 from fun i hi => by
          have h1 : i < L.length := by rw [HLL.out]; exact hi
          have h2 := HLD.out _ (List.getElem_mem h1)
          refine ⟨L[i].x, L[i].y, ?_⟩
          rw [hM, getD_at _ _ (by rw [List.length_map]; exact h1), List.getElem_map]
          unfold dbl
          dsimp only
          omega)
        have HMN := Kp.mk (show ∀ p ∈ M, p.Near ∧ Pick.BdP (100 : Nat) p from fun p hp => by
          rw [hM] at hp
          obtain ⟨q, hq, rfl⟩ := List.mem_map.1 hp
          have := HLD.out q hq
          unfold Pt.Near Pick.BdP dbl
          dsimp only
          omega)
        have HP := Kp.mk (show SlF ptL 3 wr (some ⟨g, 0, none⟩) k pc M from own_slc HO3.out)
        have HNR := Kp.mk (fun p hp => (HMN.out p hp).1)
        have HBdP := Kp.mk (fun p hp => (HMN.out p hp).2)
        obtain ⟨m, rfl⟩ : ∃ m, k = m + 1 := ⟨k - 1, by omega⟩
        obtain ⟨q1, hq1, l1⟩ := pick_nat a1 ((m + 1 : Nat) : Int) (by omega)
        obtain ⟨q2, hq2, l2⟩ := pick_nat a2 ((m + 1 : Nat) : Int) (by omega)
        have CP1 := Kp.mk (fun W => hq1 ▸ picked_any a1 ((m + 1 : Nat) : Int) W (by omega) (by omega) i1 i2)
        have CP2 := Kp.mk (fun W => hq2 ▸ picked_any a2 ((m + 1 : Nat) : Int) W (by omega) (by omega) i3 i4)
        clear HO hM hq1 hq2 HLD HLL
        obtain ⟨wo, rfl⟩ : ∃ wo : World, wo = wr := ⟨_, rfl⟩
        obtain ⟨x0, x1, x2⟩ := own_pt HO3.out q1 (by omega)
        obtain ⟨y0, y1, y2⟩ := own_pt HO3.out q2 (by omega)
        obtain ⟨u1, v1, eu1, ev1, b1⟩ := HMD.out q1 (by omega)
        obtain ⟨u2, v2, eu2, ev2, b2⟩ := HMD.out q2 (by omega)
        have HMEM := Kp.mk (show M.getD q1 pt0 ∈ M ∧ M.getD q2 pt0 ∈ M from
          ⟨by rw [getD_at _ _ (by rw [HML.out]; omega)]; exact List.getElem_mem _, by rw [getD_at _ _ (by rw [HML.out]; omega)]; exact List.getElem_mem _⟩)
        obtain ⟨p1, hp1⟩ : ∃ p, M.getD q1 pt0 = p := ⟨_, rfl⟩
        obtain ⟨p2, hp2⟩ : ∃ p, M.getD q2 pt0 = p := ⟨_, rfl⟩
        rw [hp1] at x0 x1 x2 eu1 ev1 HMEM
        rw [hp2] at y0 y1 y2 eu2 ev2 HMEM
        have HMID := Kp.mk (fun D (hD : Pick.HullL M D) => Pick.mid_in (z := ⟨u1 + u2, v1 + v2, 0⟩) hD HMEM.out.1 HMEM.out.2 (by dsimp only; omega) (by dsimp only; omega))
        rw [eu1] at x0
        rw [ev1] at x1
        rw [eu2] at y0
        rw [ev2] at y1
        generalize p1.w = pw1 at *
        generalize p2.w = pw2 at *
        clear hp1 hp2 eu1 ev1 eu2 ev2 HMEM HMD
        have s1 : IntKind.i64.wrap (2 * u1 + 2 * u2) = 2 * u1 + 2 * u2 := IntWalk.i64_in _ (by omega)
        have s2 : IntKind.i64.wrap (2 * v1 + 2 * v2) = 2 * v1 + 2 * v2 := IntWalk.i64_in _ (by omega)
        have s3 : IntKind.i64.wrap ((2 * u1 + 2 * u2).tdiv 2) = u1 + u2 := by rw [show 2 * u1 + 2 * u2 = (u1 + u2) * 2 by omega, Int.mul_tdiv_cancel _ (by omega)]; exact IntWalk.i64_in _ (by omega)
        have s4 : IntKind.i64.wrap ((2 * v1 + 2 * v2).tdiv 2) = v1 + v2 := by rw [show 2 * v1 + 2 * v2 = (v1 + v2) * 2 by omega, Int.mul_tdiv_cancel _ (by omega)]; exact IntWalk.i64_in _ (by omega)
        have hgw : g < wo.heap.size := World.block_lt_of_cell? _ _ x0
        have hA1 := below_alloc (Nat.le_refl wo.heap.size) (.cells #[.int .i64 (2 * u1), .int .i64 (2 * v1), .int .i64 pw1] 41)
        have y0' := (hA1.cell (p := ⟨g, q2 * 3, none⟩) hgw).trans y0
        have y1' := (hA1.cell (p := ⟨g, q2 * 3 + 1, none⟩) hgw).trans y1
        have y2' := (hA1.cell (p := ⟨g, q2 * 3 + 2, none⟩) hgw).trans y2
        have HA2 := Kp.mk (below_step hA1 (below_alloc (Nat.le_refl (wo.alloc (.cells #[.int .i64 (2 * u1), .int .i64 (2 * v1), .int .i64 pw1] 41)).heap.size) (.cells #[.int .i64 (2 * u2), .int .i64 (2 * v2), .int .i64 pw2] 41)))
        have CH := Kp.mk (fun W (h : Below wo.heap.size wo W) => hHas_any (some ⟨g, 0, none⟩) pc m M (u1 + u2) (v1 + v2) W (SlF.below HP.out h) (by omega) HNR.out (by omega) (by omega))
        clear hA1 y0 y1 y2
        go_wp2_with fail
        refine (CP1.out _).mono ?_
        rintro e w' ⟨rfl, rfl⟩
        go_wp2_with fail
        refine (CP2.out _).mono ?_
        rintro e w' ⟨rfl, rfl⟩
        go_wp2_with fail
        refine (CH.out _ HA2.out).mono ?_
        rintro e w5 ⟨D0, HH0, hb5, hc⟩
        have HMI := Kp.mk (HMID.out D0 HH0.out)
        have HB5 := Kp.mk (below_step HA2.out hb5)
        rcases hc with ⟨_, hno⟩ | ⟨rfl, _⟩
        · exact absurd HMI.out hno.out
        clear hb5 HMID HMI HH0 CH CP1 CP2 x0 x1 x2 y0' y1' y2' s1 s2 s3 s4
        have HP5 := Kp.mk (SlF.below HP.out HB5.out)
        have CA := Kp.mk (hArea_any (some ⟨g, 0, none⟩) pc m M w5 HP5.out (by omega) HNR.out)
        go_wp2_with fail
        refine CA.out.mono ?_
        rintro e w6 ⟨D1, rfl, HH1, hd1, hb6⟩
        have HB6 := Kp.mk (below_step HB5.out hb6)
        have HP6 := Kp.mk (SlF.below HP5.out hb6)
        clear hb6 HP5 CA HB5 HA2
        obtain ⟨z, hz⟩ : ∃ z : Pt, z = ⟨zx, zy, 0⟩ := ⟨_, rfl⟩
        have HZN := Kp.mk (show z.Near ∧ Pick.BdP (100 : Nat) z from by rw [hz]; unfold Pt.Near Pick.BdP; dsimp only; omega)
        have HZ := Kp.mk hz
        clear hz
        go_wp2_with (at_builtin; refine wpList_cat tPts rfl _ _ rfl w6.heap.size none 0 0 [] rfl (World.ownsRow_nil _ _ _ _) _ _ _ _ rfl HP6.out (flat_one ptL_one M) ?c1 (by decide) (Nat.le_refl _) ?c2)
        case c1 => omega
        case c2 =>
          intro qa qc w7 hown7 hbel7
          have HQ7 := Kp.mk (show w7.ownsRow w6.heap.size 41 3 (.slice qa (m + 1) qc) (m + 1) (flat ptL M) from by simpa using hown7)
          have HB7 := Kp.mk (below_step HB6.out hbel7)
          have HP7 := Kp.mk (SlF.below HP6.out hbel7)
          have hsz7 := hbel7.size
          have HB67 := Kp.mk hbel7
          clear hown7 hbel7
          go_wp2_with fail
          refine (CX.out _).mono ?_
          rintro e w' ⟨rfl, rfl⟩
          go_wp2_with fail
          refine (CY.out _).mono ?_
          rintro e w' ⟨rfl, rfl⟩
          go_wp2_with (at_builtin; refine wpList_push tPts rfl _ _ rfl w6.heap.size qa (m + 1) qc _ rfl HQ7.out 1 1 _ rfl rfl ?d1 (by decide) ?d2 (by decide) hsz7 ?d4)
          case d1 => simp [Value.oneCell']
          case d2 => omega
          case d4 =>
            intro ta tc w8 ho8 hb8
            have HT8 := Kp.mk (show SlF ptL 3 w8 ta (m + 1 + 1) tc (M ++ [z]) from own_slc (show w8.ownsRow w6.heap.size 41 3 (.slice ta (m + 1 + 1) tc) (m + 1 + 1) (flat ptL (M ++ [z])) from by
              rw [flat_append, HZ.out]
              have e : flat ptL [(⟨zx, zy, 0⟩ : Pt)] = [.int .i64 zx, .int .i64 zy, .int .i64 0] := by simp [flat, ptL]
              rw [e]; exact ho8))
            have hb68 : Below w6.heap.size w6 w8 := HB67.out.trans hb8
            have HB8 := Kp.mk (below_step HB6.out hb68)
            have HP8 := Kp.mk (SlF.below HP6.out hb68)
            have HEN := Kp.mk (show ∀ p ∈ M ++ [z], p.Near from fun p hp => by
              rcases List.mem_append.1 hp with hp | hp
              · exact HNR.out p hp
              · rw [List.mem_singleton.1 hp]; exact HZN.out.1)
            have CA := Kp.mk (hArea_any ta tc (m + 1) (M ++ [z]) w8 HT8.out (by omega) HEN.out)
            clear ho8 hb8 hb68 HB67 HB7 HB6 HP6 HP7 HQ7 hsz7
            go_wp2_with fail
            refine CA.out.mono ?_
            rintro e w9 ⟨E, rfl, HE, hE2, hb9⟩
            have HB9 := Kp.mk (below_step HB8.out hb9)
            have HP9 := Kp.mk (SlF.below HP8.out hb9)
            clear hb9 CA HB8 HP8 HT8 HEN
            go_wp2_with fail
            refine (CX.out _).mono ?_
            rintro e w' ⟨rfl, rfl⟩
            go_wp2_with fail
            refine (CY.out _).mono ?_
            rintro e w' ⟨rfl, rfl⟩
            go_wp2_with fail
            refine (hHas_any (some ⟨g, 0, none⟩) pc m M zx zy w9 HP9.out (by omega) HNR.out (by omega) (by omega)).mono ?_
            rintro e w10 ⟨D3, HD3, hb10, hc⟩
            have HBT := Kp.mk (show Below w.heap.size w w10 from below_step (below_step HB.out HB9.out) hb10)
            have hp0 := (Pick.areaS_nonneg HH1.out).1
            have HSM := Kp.mk (Pick.area_same HH1.out HD3.out HBdP.out)
            have HYES := Kp.mk (fun (h : InHull D3 z) => Pick.more_has HD3.out HE.out HBdP.out HZN.out.2 h)
            have HNOT := Kp.mk (fun (h : ¬ InHull D3 z) => Pick.more_not HD3.out HE.out HBdP.out HZN.out.2 h)
            rw [← HSM.out] at HYES HNOT
            rw [HZ.out] at HYES HNOT
            obtain ⟨A1, hA1⟩ : ∃ a, areaS D1 D1.length = a := ⟨_, rfl⟩
            obtain ⟨A2, hA2⟩ : ∃ a, areaS E E.length = a := ⟨_, rfl⟩
            rw [hA1] at hp0 HYES HNOT
            rw [hA2] at HYES HNOT
            simp only [hA1, hA2]
            have tp : decide (A1 ≥ 0) = true := decide_eq_true hp0
            clear hb10 HSM HD3 HE HH1 HB9 HP9 CX CY hA1 hA2
            rcases hc with ⟨rfl, hno⟩ | ⟨rfl, hyes⟩
            · rcases HNOT.out hno.out with h1 | h1
              · have t1 : decide (A1 < A2) = true := decide_eq_true h1
                clear h1 hp0
                go_wp2
                go_ret
                exact ⟨by simp, HBT.out⟩
              · have t2 : (A2 == 0) = true := by rw [beq_iff_eq]; exact h1
                subst h1
                by_cases h2 : A1 < 0
                · omega
                · have t1 : decide (A1 < 0) = false := decide_eq_false h2
                  clear h2 hp0
                  go_wp2
                  go_ret
                  exact ⟨by simp, HBT.out⟩
            · have h1 := HYES.out hyes.out
              have t1 : (A1 == A2) = true := by rw [beq_iff_eq]; exact h1
              subst h1
              clear hp0
              go_wp2
              go_ret
              exact ⟨by simp, HBT.out⟩

end Go.Proofs.Ytlmdlholmlbcbaa

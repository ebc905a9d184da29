/- HullPick: the walk. -/
import Derived.Test.YtlmdlholmlbcbaaHulB
import Derived.Test.YtlmdlholmlbcbaaHulG
import Derived.Test.YtlmdlholmlbcbaaFlatIn
namespace Go.Proofs.Ytlmdlholmlbcbaa
set_option linter.unusedVariables false
open Go.RowKit
open Pick (crn nxt areaS bordS InHull sumN cnt inPoly)

/-- The places of a column that are in. -/
def colQ (D : List Pt) (x : Int) (k : Nat) : Int := sumN k (fun j => if inPoly (crn D) (D.length - 1) x (0 + j) then 1 else 0)
def allQ (D : List Pt) (k : Nat) : Int := sumN k (fun i => colQ D (0 + i) 12)
theorem colQ_succ (D : List Pt) (x : Int) (k : Nat) : colQ D x (k + 1) = colQ D x k + (if inPoly (crn D) (D.length - 1) x (0 + k) then 1 else 0) := rfl
theorem allQ_succ (D : List Pt) (k : Nat) : allQ D (k + 1) = allQ D k + colQ D (0 + k) 12 := rfl
theorem colQ_zero (D : List Pt) (x : Int) : colQ D x 0 = 0 := rfl
theorem allQ_zero (D : List Pt) : allQ D 0 = 0 := rfl
theorem allQ_cnt (D : List Pt) : allQ D 12 = cnt (inPoly (crn D) (D.length - 1)) 0 12 := rfl
theorem colQ_bd (D : List Pt) (x : Int) : ∀ k : Nat, 0 ≤ colQ D x k ∧ colQ D x k ≤ k
  | 0 => ⟨Int.le_refl _, Int.le_refl _⟩
  | k + 1 => by
    have := colQ_bd D x k
    rw [colQ_succ]
    split <;> omega
theorem allQ_bd (D : List Pt) : ∀ k : Nat, 0 ≤ allQ D k ∧ allQ D k ≤ 12 * k
  | 0 => ⟨Int.le_refl _, Int.le_refl _⟩
  | k + 1 => by
    have := allQ_bd D k
    have := colQ_bd D (0 + k) 12
    rw [allQ_succ]
    omega
theorem pick_thick {L D : List Pt} (h : Pick.HullL L D) (h1 : (⟨3, 5, 0⟩ : Pt) ∈ L) (h2 : (⟨4, 5, 0⟩ : Pt) ∈ L) (h3 : (⟨3, 6, 0⟩ : Pt) ∈ L) : 3 ≤ D.length := by
  by_cases hc : 3 ≤ D.length
  · exact hc
  · have := Pick.thin_line h (by omega) h1 h2 h3
    unfold turnP at this
    simp at this
theorem pick_sum {L D D1 : List Pt} (hD : Pick.HullL L D) (h1 : Pick.HullL L D1) (h3 : 3 ≤ D.length) (hB : ∀ p ∈ L, Pick.InB 0 12 p) : 2 * allQ D 12 = areaS D1 D1.length + bordS D D.length + 2 ∧ areaS D1 D1.length = areaS D D.length ∧ 0 < areaS D D.length := by
  have e := Pick.area_same h1 hD (B := 12) (fun p hp => by have := hB p hp; unfold Pick.InB at this; unfold Pick.BdP; omega)
  have h := Pick.pick_hull hD h3 12 hB
  rw [allQ_cnt, h, e]
  exact ⟨rfl, rfl, (Pick.areaS_nonneg hD).2.1 h3⟩
theorem pick_has {L D D2 : List Pt} (hD : Pick.HullL L D) (h2 : Pick.HullL L D2) (h3 : 3 ≤ D.length) (h3' : 3 ≤ D2.length) (x y : Int) : InHull D2 ⟨x, y, 0⟩ ↔ inPoly (crn D) (D.length - 1) x y = true := by
  rw [← Pick.inHull_poly h3 ⟨x, y, 0⟩]
  exact ⟨fun h => Pick.inHull_same h2 hD h3' h, fun h => Pick.inHull_same hD h2 h3 h⟩
attribute [irreducible] colQ allQ
attribute [local irreducible] areaS bordS inPoly

set_option maxRecDepth 100000 in
set_option maxHeartbeats 16000000 in
theorem walk_HullPick (a0 : Option Addr) (len0 cap0 : Nat) (z0 : List Int) (w : World) (w0 : IsFlat 3 w a0 len0 cap0 z0) :
    Calls Try.prog 7 #[.slice a0 len0 cap0] w fun e w' => e = .returned (.bool true) ∧ Below w.heap.size w w' := by
  obtain ⟨S, hS, wS, nS⟩ := spots_in w0
  have C1 := Kp.mk (points_any a0 cap0 len0 12 12 S w hS (by unfold maxLen at nS; omega) (by omega) (by omega) (by omega) wS)
  clear w0 hS wS
  go_enter Try.func7, Try.ntmps7
  go_wp2_with fail
  refine C1.out.mono ?_
  rintro e w1 ⟨sa, sc, r, rfl, HR, HO, hb1⟩
  have HB1 := Kp.mk hb1
  have hr60 : r ≤ 12 := by have := HR.out; rw [ptsOf_length] at this; omega
  have HBD := Kp.mk (ptsOf_bd S 12 12 (by omega))
  have hsz := hb1.size
  generalize ptsOf S 12 12 = P at *
  clear hb1 C1
  go_wp2_with (at_builtin; refine wpList_push tPts rfl _ _ rfl w.heap.size sa r sc _ rfl HO.out 3 3 _ rfl rfl ?d1 (by decide) ?d2 (by decide) hsz ?d4)
  case d1 => simp [Value.oneCell']
  case d2 => omega
  case d4 =>
    intro pa pc w2 ho2 hb2
    obtain ⟨L, hL⟩ : ∃ L : List Pt, L = P ++ [⟨3, 5, 0⟩, ⟨4, 5, 0⟩, ⟨3, 6, 0⟩] := ⟨_, rfl⟩
    obtain ⟨m, hm⟩ : ∃ m, m = r + 2 := ⟨_, rfl⟩
    have HO2 := Kp.mk (show w2.ownsRow w.heap.size 41 3 (.slice pa (m + 1) pc) (m + 1) (flat ptL L) from by
      rw [hL, flat_append, hm]
      have e : flat ptL [(⟨3, 5, 0⟩ : Pt), ⟨4, 5, 0⟩, ⟨3, 6, 0⟩] = [.int .i64 3, .int .i64 5, .int .i64 0, .int .i64 4, .int .i64 5, .int .i64 0, .int .i64 3, .int .i64 6, .int .i64 0] := by simp [flat, ptL]
      rw [e]; exact ho2)
    have hm13 : m ≤ 14 := by omega
    have HN2 := Kp.mk (show SlF ptL 3 w2 pa (m + 1) pc L from own_slc HO2.out)
    have HB2 := Kp.mk (HB1.out.trans hb2)
    have HLD := Kp.mk (show ∀ p ∈ L, Pick.InB 0 12 p ∧ p.Near from fun p hp => by
      rw [hL] at hp
      unfold Pick.InB Pt.Near
      rcases List.mem_append.1 hp with hp | hp
      · have := HBD.out p hp; omega
      · simp only [List.mem_cons, List.not_mem_nil, or_false] at hp
        rcases hp with rfl | rfl | rfl <;> simp)
    have HNR := Kp.mk (fun p hp => (HLD.out p hp).2)
    have HIB := Kp.mk (fun p hp => (HLD.out p hp).1)
    have H3 := Kp.mk (show ∀ D, Pick.HullL L D → 3 ≤ D.length from fun D hD => pick_thick hD (by rw [hL]; simp) (by rw [hL]; simp) (by rw [hL]; simp))
    rw [show r + 3 = m + 1 by omega]
    clear ho2 hb2 hL HO HBD hsz HR HB1 HLD HO2 hm
    go_wp2_with (at_builtin; refine wpList_cat tPts rfl _ _ rfl w2.heap.size none 0 0 [] rfl (World.ownsRow_nil _ _ _ _) _ _ _ _ rfl HN2.out (flat_one ptL_one L) ?c1 (by decide) (Nat.le_refl _) ?c2)
    case c1 => omega
    case c2 =>
      intro ca cc w3 hc hb3
      have HC3 := Kp.mk (show SlF ptL 3 w3 ca (m + 1) cc L from own_slc (by simpa using hc))
      have HN3 := Kp.mk (SlF.below HN2.out hb3)
      have HB3 := Kp.mk (below_step HB2.out hb3)
      clear hc hb3 HN2
      go_wp2_with fail
      refine (hInside_any ca cc m L w3 HC3.out (by omega) HNR.out H3.out).mono ?_
      rintro e w4 ⟨D, HD, hdl, rfl, hb4⟩
      have HN4 := Kp.mk (SlF.below HN3.out hb4)
      have HB4 := Kp.mk (below_step HB3.out hb4)
      clear hb4 HN3 HB3 HC3
      go_wp2_with (at_builtin; refine wpList_cat tPts rfl _ _ rfl w4.heap.size none 0 0 [] rfl (World.ownsRow_nil _ _ _ _) _ _ _ _ rfl HN4.out (flat_one ptL_one L) ?f1 (by decide) (Nat.le_refl _) ?f2)
      case f1 => omega
      case f2 =>
        intro da dc w5 hc hb5
        have HC5 := Kp.mk (show SlF ptL 3 w5 da (m + 1) dc L from own_slc (by simpa using hc))
        have HN5 := Kp.mk (SlF.below HN4.out hb5)
        have HB5 := Kp.mk (below_step HB4.out hb5)
        clear hc hb5 HN4 HB4
        go_wp2_with fail
        refine (hArea_any da dc m L w5 HC5.out (by omega) HNR.out).mono ?_
        rintro e w6 ⟨D1, rfl, HD1, hdl1, hb6⟩
        have HN6 := Kp.mk (SlF.below HN5.out hb6)
        have HB6 := Kp.mk (below_step HB5.out hb6)
        have hD3 := H3.out D HD.out
        have hps := pick_sum HD.out HD1.out hD3 HIB.out
        have HHAS := Kp.mk (fun D2 (h2 : Pick.HullL L D2) (x y : Int) => pick_has HD.out h2 hD3 (H3.out D2 h2) x y)
        have hq := allQ_bd D 12
        obtain ⟨A1, hA1⟩ : ∃ A, areaS D1 D1.length = A := ⟨_, rfl⟩
        obtain ⟨A, hA⟩ : ∃ A, areaS D D.length = A := ⟨_, rfl⟩
        obtain ⟨B, hB⟩ : ∃ B, bordS D D.length = B := ⟨_, rfl⟩
        obtain ⟨N, hN⟩ : ∃ N, allQ D 12 = N := ⟨_, rfl⟩
        rw [hA1, hA, hB, hN] at hps
        rw [hN] at hq
        simp only [hA1, hA, hB]
        obtain ⟨hp1, hp2, hp3⟩ := hps
        subst hp2
        have hin : (A1 - B + 2).tdiv 2 = N - B := by rw [show A1 - B + 2 = (N - B) * 2 by omega]; exact Int.mul_tdiv_cancel _ (by omega)
        rw [hin]
        have HNE := Kp.mk hN
        have hBB := bordS_bd (D := D) (fun i hi => HNR.out _ (HD.out.hull.sub i hi)) D.length (Nat.le_refl _)
        rw [hB] at hBB
        have e1 : IntKind.i64.wrap (2 * (N - B)) = 2 * (N - B) := IntWalk.i64_in _ (by omega)
        have e2 : IntKind.i64.wrap (2 * (N - B) + B) = 2 * (N - B) + B := IntWalk.i64_in _ (by omega)
        have e3 : IntKind.i64.wrap (2 * (N - B) + B - 2) = A1 := by rw [show 2 * (N - B) + B - 2 = A1 by omega]; exact IntWalk.i64_in _ (by omega)
        have e4 : IntKind.i64.wrap (N - B + B) = N := by rw [show N - B + B = N by omega]; exact IntWalk.i64_in _ (by omega)
        have t1 : (A1 != A1) = false := by simp
        have t2 : decide (A1 < 1) = false := decide_eq_false (by omega)
        have HEND := Kp.mk e4
        clear hb6 HN5 HB5 HC5 hin hA1 hA hB hN hp1 hBB HD HD1 hD3 HIB hp3
        obtain ⟨wo, rfl⟩ : ∃ wo : World, wo = w6 := ⟨_, rfl⟩
        go_wp2
        go_loopw [9, 10] (fun xa xi wr => ∃ k : Nat, k ≤ 12 ∧ xi = .int .i64 k ∧ xa = .int .i64 (allQ D k) ∧ Kp (Below wo.heap.size wo wr)) (fun _ i _ => 12 - (intOf i).toNat)
        case atStart => exact ⟨0, Nat.zero_le _, rfl, by rw [allQ_zero], ⟨Below.refl _ _⟩⟩
        case round =>
          clear e1 e2 e3 e4
          obtain ⟨k, hk, rfl, rfl, HB⟩ := hrel
          by_cases hlt : k < 12
          · have hbq := allQ_bd D k
            have HS := Kp.mk (allQ_succ D k)
            obtain ⟨u, hu⟩ : ∃ u, allQ D k = u := ⟨_, rfl⟩
            rw [hu] at hbq HS ⊢
            clear hu
            have t0 : decide ((k : Int) < 12) = true := decide_eq_true (by omega)
            go_wp2
            go_loopw [9, 11] (fun xa xi wr => ∃ j : Nat, j ≤ 12 ∧ xi = .int .i64 j ∧ xa = .int .i64 (u + colQ D (0 + k) j) ∧ Kp (Below wo.heap.size wo wr)) (fun _ i _ => 12 - (intOf i).toNat)
            case atStart => exact ⟨0, Nat.zero_le _, rfl, by rw [colQ_zero]; simp, HB⟩
            case round =>
              clear HB
              obtain ⟨j, hj, rfl, rfl, HB⟩ := hrel
              by_cases hlt2 : j < 12
              · have hcq := colQ_bd D (0 + k) j
                have HSJ := Kp.mk (colQ_succ D (0 + k) j)
                obtain ⟨v, hv⟩ : ∃ v, colQ D (0 + k) j = v := ⟨_, rfl⟩
                rw [hv] at hcq HSJ ⊢
                clear hv
                go_wp2_with fail
                refine (hHas_any pa pc m L k j wr (SlF.below HN6.out HB.out) (by omega) HNR.out (by omega) (by omega)).mono ?_
                rintro e w7 ⟨D2, HD2, hb7, hc⟩
                have HB7 := Kp.mk (HB.out.trans (hb7.mono HB.out.size))
                have hiff := HHAS.out D2 HD2.out k j
                have e5 : IntKind.i64.wrap (u + v + 1) = u + v + 1 := IntWalk.i64_in _ (by omega)
                clear hb7
                rcases hc with ⟨rfl, hno⟩ | ⟨rfl, hyes⟩
                · have HV := Kp.mk (show u + v = u + colQ D (0 + k) (j + 1) from by
                    rw [HSJ.out, Int.zero_add, Int.zero_add, if_neg (fun h => hno.out (hiff.2 h))]; omega)
                  clear hiff hno
                  go_wp2
                  go_roundw
                  case rel => exact ⟨j + 1, by omega, by go_num, by rw [HV.out], HB7⟩
                  case measure => simp [intOf]; omega
                · have HV := Kp.mk (show u + v + 1 = u + colQ D (0 + k) (j + 1) from by
                    rw [HSJ.out, Int.zero_add, Int.zero_add, if_pos (hiff.1 hyes.out)]; omega)
                  clear hiff hyes
                  go_wp2
                  go_roundw
                  case rel => exact ⟨j + 1, by omega, by go_num, by rw [HV.out], HB7⟩
                  case measure => simp [intOf]; omega
              · obtain rfl : j = 12 := by omega
                go_wp2
                go_roundw
                case rel => exact ⟨k + 1, by omega, by go_num, by rw [HS.out], HB⟩
                case measure => simp [intOf]; omega
          · obtain rfl : k = 12 := by omega
            have HBE := Kp.mk (below_step HB6.out HB.out)
            rw [HNE.out]
            have e4 := HEND.out
            go_wp2
            go_ret
            exact ⟨by simp, HBE.out⟩

end Go.Proofs.Ytlmdlholmlbcbaa

/- RanksTrue: the walk. -/
import Derived.Test.YtjicgndahpffbaaRnk
import Derived.Test.YtjicgndahpffbaaSgn
namespace Go.Proofs.Ytjicgndahpffbaa
set_option linter.unusedVariables false
open Go.RowKit

/-- What is told of ranks, and of ranks of ranks. -/
theorem ranks_facts {l V U : List Int} {R R2 : List Nat} (hV : Up V) (hm : ∀ x, x ∈ V ↔ x ∈ l) (hR : Rks l V R) (hU : Up U) (hm2 : ∀ x, x ∈ U ↔ x ∈ R.map Int.ofNat) (hR2 : Rks (R.map Int.ofNat) U R2) :
    (∀ i, i < l.length → R.getD i 0 < V.length ∧ V.getD (R.getD i 0) 0 = l.getD i 0) ∧ U.length = V.length ∧ (∀ i, i < V.length → U.getD i 0 = i) ∧ R2 = R := by
  have h1 : ∀ i, i < l.length → R.getD i 0 < V.length ∧ V.getD (R.getD i 0) 0 = l.getD i 0 := fun i hi =>
    rk_get hV ((hm _).2 (by rw [getD_at _ _ hi]; exact List.getElem_mem _)) (hR.2 i hi)
  have h2 : ∀ x : Int, x ∈ U ↔ 0 ≤ x ∧ x < V.length := fun x => by
    rw [hm2]
    constructor
    · intro h
      obtain ⟨y, hy, rfl⟩ := List.mem_map.1 h
      obtain ⟨i, hi, e⟩ := List.getElem_of_mem hy
      have := (h1 i (by rw [← hR.1]; exact hi)).1
      rw [getD_at _ _ hi, e] at this
      exact ⟨by simp, by simpa using this⟩
    · rintro ⟨a, b⟩
      obtain ⟨j, rfl⟩ : ∃ j : Nat, x = j := ⟨x.toNat, by omega⟩
      have hj : j < V.length := by omega
      obtain ⟨i, hi, e⟩ := List.getElem_of_mem ((hm (V.getD j 0)).1 (by rw [getD_at _ _ hj]; exact List.getElem_mem _))
      have h3 := hR.2 i hi
      rw [getD_at l 0 hi, e] at h3
      have h4 := rk_uniq h3 (rk_at hV j hj)
      refine List.mem_map.2 ⟨j, ?_, rfl⟩
      rw [← h4, getD_at _ _ (by rw [hR.1]; exact hi)]
      exact List.getElem_mem _
  obtain ⟨h5, h6⟩ := up_range hU V.length h2
  refine ⟨h1, h5, h6, ?_⟩
  apply List.ext_getElem
  · have := hR2.1; rw [List.length_map] at this; exact this
  · intro i a b
    have h7 := hR2.2 i (by rw [List.length_map]; exact b)
    have e1 : (R.map Int.ofNat).getD i 0 = ((R[i] : Nat) : Int) := by rw [getD_at _ _ (by rw [List.length_map]; exact b)]; simp
    have hb := (h1 i (by rw [← hR.1]; exact b)).1
    rw [getD_at _ _ b] at hb
    rw [e1, getD_at _ _ a] at h7
    have h8 := rk_at hU R[i] (by rw [h5]; exact hb)
    rw [h6 _ hb] at h8
    exact rk_uniq h7 h8

set_option maxRecDepth 100000 in
set_option maxHeartbeats 4000000 in
theorem walk_RanksTrue (a0 : Option Addr) (len0 cap0 : Nat) (z0 : List Int) (a1 : Int) (w : World) (w0 : IsRow .i64 w a0 len0 cap0 z0) (w1 : (Lit.int .i64 a1).wf = true) :
    Calls Try.prog 10 #[.slice a0 len0 cap0, .int .i64 a1] w fun e w' => e = .returned (.bool true) ∧ Below w.heap.size w w' := by
  obtain ⟨l, rfl, hl, wl, nl⟩ := row_sl w0
  obtain ⟨c1, c2⟩ := wf_bd w1
  unfold maxLen at nl
  have HL := Kp.mk hl
  have WL := Kp.mk wl
  obtain ⟨q, hq, ql⟩ := pick_nat a1 1000 (by omega)
  have HQ := Kp.mk hq
  obtain ⟨s, hs⟩ : ∃ s, s = 1 + q := ⟨_, rfl⟩
  have e1 : IntKind.i64.wrap (1 + (q : Int)) = (s : Int) := by rw [show 1 + (q : Int) = s by omega]; exact IntWalk.i64_in _ (by omega)
  have hs1 : (0 : Int) ≤ s := by omega
  have hs2 : (s : Int) ≤ 1000 := by omega
  obtain ⟨n, hn⟩ : ∃ n, n = (sgn l 90 s).length := ⟨_, rfl⟩
  have hn90 : n ≤ 90 := by rw [hn, sgn_length]; omega
  have HM := Kp.mk hn
  have HSB := Kp.mk (sgn_bd l 90 s hs1)
  clear w0 w1 hl wl hn hq hs
  go_enter Try.func10, Try.ntmps10
  go_wp2_with fail
  refine (picked_any a1 1000 w (by omega) (by omega) c1 c2).mono ?_
  rintro e w' ⟨rfl, rfl⟩
  rw [HQ.out]
  go_wp2_with fail
  refine (signed_any a0 cap0 90 s l w HL.out (by omega) (by omega) hs1 (by omega) WL.out).mono ?_
  rintro e w1 ⟨na, nc, rfl, hO, hb⟩
  unfold OwnI at hO
  rw [← HM.out] at hO ⊢
  have HO := Kp.mk hO
  have HB := Kp.mk hb
  have hsz := Kp.mk hb.size
  clear hO hb
  go_wp2_with (at_builtin; refine wpList_push tInts rfl _ _ rfl w.heap.size na n nc _ rfl HO.out 1 1 _ rfl rfl ?d1 (by decide) ?d2 (by decide) hsz.out ?d4)
  case d1 => simp [Value.oneCell']
  case d2 => omega
  case d4 =>
    intro sa sc w2 hown hbel
    have hb2 := HB.out.trans hbel
    have HNL := Kp.mk (show (sgn l 90 s ++ [4]).length = n + 1 by rw [List.length_append, ← HM.out]; rfl)
    have HN := Kp.mk (show SlI w2 sa sc (sgn l 90 s ++ [4]) from own_sl_len (by rw [ints_append]; exact hown) HNL.out)
    have HB2 := Kp.mk hb2
    have HNB := Kp.mk (show ∀ x ∈ sgn l 90 s ++ [4], -1000 ≤ x ∧ x ≤ 1000 from fun x hx => by
      rcases List.mem_append.1 hx with hx | hx
      · have := HSB.out x hx; omega
      · rw [List.mem_singleton.1 hx]; omega)
    clear hown hbel HO HM hsz HB HL hb2 HSB
    generalize sgn l 90 s ++ [4] = N at *
    go_wp2_with fail
    refine (copied_n _ _ _ _ _ HN.out HNL.out (by omega)).mono ?_
    rintro e w3 ⟨ca, cc, rfl, hc3, hb3⟩
    have HN3 := Kp.mk (HN.out.below hb3)
    have HB3 := Kp.mk (HB2.out.trans (hb3.mono HB2.out.size))
    have HC3 := Kp.mk hc3
    clear hc3 hb3 HN HB2
    go_wp2_with fail
    refine (rmake_any ca cc (n + 1) N w3 HC3.out HNL.out (by omega)).mono ?_
    rintro e w4 ⟨va, v, vc, ra, rc, R, rfl, HVL, HV, HR, HRK, hb4⟩
    have HN4 := Kp.mk (HN3.out.below hb4.out)
    have HB4 := Kp.mk (HB3.out.trans (hb4.out.mono HB3.out.size))
    have HVU := Kp.mk (valL_up N)
    have HVM := Kp.mk (valL_mem N)
    have hv := valL_length N
    rw [HVL.out, HNL.out] at hv
    have HRL := Kp.mk (show (R.map Int.ofNat).length = n + 1 from by rw [List.length_map, HRK.out.1, HNL.out])
    generalize valL N = V at *
    clear HC3 hb4 HN3 HB3
    go_wp2_with fail
    refine (copied_n _ _ _ _ _ HR.out HRL.out (by omega)).mono ?_
    rintro e w5 ⟨da, dc, rfl, hc5, hb5⟩
    have HC5 := Kp.mk hc5
    have hb45 := hb5
    clear hc5
    go_wp2_with fail
    refine (rmake_any da dc (n + 1) (R.map Int.ofNat) w5 HC5.out HRL.out (by omega)).mono ?_
    rintro e w6 ⟨ua, u, uc, ta, tc, R2, rfl, HUL, HUS, HR2, HRK2, hb6⟩
    have hb46 := below_step hb45 hb6.out
    have HN6 := Kp.mk (HN4.out.below hb46)
    have HV6 := Kp.mk (HV.out.below hb46)
    have HR6 := Kp.mk (HR.out.below hb46)
    have HB6 := Kp.mk (HB4.out.trans (hb46.mono HB4.out.size))
    obtain ⟨f1, f2, f3, f4⟩ := ranks_facts HVU.out HVM.out HRK.out (valL_up (R.map Int.ofNat)) (valL_mem (R.map Int.ofNat)) HRK2.out
    subst f4
    rw [HUL.out, HVL.out] at f2
    subst f2
    have HF1 := Kp.mk f1
    have HF3 := Kp.mk f3
    generalize valL (R2.map Int.ofNat) = U at *
    clear f1 f3 hb45 hb46 hb5 hb6 HN4 HV HR HB4 HC5 HRK2
    have e2 : IntKind.i64.wrap ((n : Int) + 1) = (n : Int) + 1 := IntWalk.i64_in _ (by omega)
    go_wp2_with fail
    refine (sameInts_same ra ta rc tc (n + 1) _ _ w6 HR6.out HR2.out HRL.out HRL.out rfl (by omega)).mono ?_
    rintro e w7 ⟨rfl, hb7⟩
    have HN7 := Kp.mk (HN6.out.below hb7)
    have HV7 := Kp.mk (HV6.out.below hb7)
    have HR7 := Kp.mk (HR6.out.below hb7)
    have HU7 := Kp.mk (HUS.out.below hb7)
    have HB7 := Kp.mk (HB6.out.trans (hb7.mono HB6.out.size))
    clear hb7 HN6 HV6 HR6 HUS HB6 HR2
    have HRM := Kp.mk (show ∀ i (h : i < n + 1), (R2.map Int.ofNat)[i]'(by rw [HRL.out]; exact h) = ((R2.getD i 0 : Nat) : Int) from fun i h => by
      have := HRL.out; rw [List.length_map] at this
      rw [getD_at _ _ (by omega)]; simp)
    go_wp2
    go_loopw [12] (fun i wr => ∃ k : Nat, k ≤ n + 1 ∧ i = .int .i64 k ∧ Kp (Below w7.heap.size w7 wr)) (fun i _ => n + 1 - (intOf i).toNat)
    case atStart => exact ⟨0, Nat.zero_le _, rfl, ⟨Below.refl _ _⟩⟩
    case round =>
      obtain ⟨k, hk, rfl, HBK⟩ := hrel
      by_cases hlt : k < n + 1
      · obtain ⟨b1, o1, rfl, x1⟩ := (HN7.out.below HBK.out).at k (by rw [HNL.out]; exact hlt)
        obtain ⟨b2, o2, rfl, x2⟩ := (HR7.out.below HBK.out).at k (by rw [HRL.out]; exact hlt)
        rw [HRM.out k hlt] at x2
        obtain ⟨g1, g2⟩ := HF1.out k (by rw [HNL.out]; exact hlt)
        have HNX := Kp.mk (HNB.out _ (List.getElem_mem (show k < N.length by rw [HNL.out]; exact hlt)))
        obtain ⟨b3, o3, rfl, x3⟩ := (HV7.out.below HBK.out).at (R2.getD k 0) g1
        rw [getD_at N 0 (show k < N.length by rw [HNL.out]; exact hlt), getD_at V 0 g1] at g2
        rw [g2] at x3
        rw [HVL.out] at g1
        have HK1 := Kp.mk (rk_at HVU.out (R2.getD k 0) (by rw [HVL.out]; exact g1))
        have HK2 := Kp.mk (rk_next HVU.out (R2.getD k 0) (by rw [HVL.out]; exact g1))
        rw [getD_at V 0 (by rw [HVL.out]; exact g1), g2] at HK1 HK2
        clear g2
        generalize N[k]'(by rw [HNL.out]; exact hlt) = y at *
        generalize R2.getD k 0 = r at *
        have hr2 : r ≤ 91 := by omega
        have hrz : (r : Int) < u := by omega
        have t1 : decide ((u : Int) ≤ r) = false := decide_eq_false (by omega)
        have t2 : decide (u ≤ r) = false := decide_eq_false (by omega)
        obtain ⟨y1, y2⟩ := HNX.out
        have e3 : IntKind.i64.wrap (y + 1) = y + 1 := IntWalk.i64_in _ (by omega)
        have e4 : IntKind.i64.wrap ((r : Int) + 1) = (r : Int) + 1 := IntWalk.i64_in _ (by omega)
        go_wp2
        go_quiet (fail)
        have HBwa := Kp.mk (HBK.out.trans (drewN_below (w := wr) nq))
        have x1 : (wr.drewN nq).cell? ⟨b1, o1 + k, none⟩ = some (.int .i64 y) := x1
        have x2 : (wr.drewN nq).cell? ⟨b2, o2 + k, none⟩ = some (.int .i64 r) := x2
        generalize wr.drewN nq = wa at *
        go_wp2
        have hdr1 : Below wa.heap.size wa wa.drew := (Below.refl _ _).drew
        have HVD1 := Kp.mk ((HV7.out.below HBwa.out).below hdr1)
        have HKS1 := Kp.mk (fun (w' : World) (hb : Below wa.drew.heap.size wa.drew w') => show w'.cell? ⟨b1, o1 + k, none⟩ = some (.int .i64 y) from (hdr1.trans hb).cell (p := ⟨b1, o1 + k, none⟩) (World.block_lt_of_cell? _ _ x1) |>.trans x1)
        go_region_held3 (fun w' => w'.cell? ⟨b1, o1 + k, none⟩ = some (.int .i64 y))
          (first | exact x1 | exact hSf1 | exact hSc1 | go_keep)
          ((first
            | (go_at_call 37; refine (rfind_any c1 d1 u V y wc1 hcc1 HVL.out (by omega) HVU.out).mono ?_; rintro e wf1 ⟨r1, rfl, HI1, HBF1⟩; have hSf1 := HKS1.out wf1 (hbc1.trans (HBF1.out.mono hbc1.size)))
            | (go_at_call 25; refine (copied_n _ _ _ _ _ HVD1.out HVL.out (by omega)).mono ?_; rintro e wc1 ⟨c1, d1, rfl, hcc1, hbc1⟩; have hSc1 := HKS1.out wc1 hbc1)))
        all_goals
          obtain rfl := rk_uniq HI1.out HK1.out
          have HBwf1 := Kp.mk (HBwa.out.trans ((hdr1.trans (hbc1.trans (HBF1.out.mono hbc1.size))).mono HBwa.out.size))
          have x1f := hSf1
          have x2f := ((hdr1.trans (hbc1.trans (HBF1.out.mono hbc1.size))).cell (p := ⟨b2, o2 + k, none⟩) (World.block_lt_of_cell? _ _ x2)).trans x2
          clear HVD1 HKS1 hdr1 hcc1 hbc1 HBF1 hSf1 HI1 HK1
          go_wp2
          have hdr2 : Below wf1.heap.size wf1 wf1.drew := (Below.refl _ _).drew
          have HVD2 := Kp.mk ((HV7.out.below HBwf1.out).below hdr2)
          have HKS2 := Kp.mk (fun (w' : World) (hb : Below wf1.drew.heap.size wf1.drew w') => show w'.cell? ⟨b1, o1 + k, none⟩ = some (.int .i64 y) from (hdr2.trans hb).cell (p := ⟨b1, o1 + k, none⟩) (World.block_lt_of_cell? _ _ x1f) |>.trans x1f)
          go_region_held3 (fun w' => w'.cell? ⟨b1, o1 + k, none⟩ = some (.int .i64 y))
            (first | exact x1f | exact hSf2 | exact hSc2 | go_keep)
            ((first
              | (go_at_call 37; refine (rfind_any c2 d2 u V (y + 1) wc2 hcc2 HVL.out (by omega) HVU.out).mono ?_; rintro e wf2 ⟨r2, rfl, HI2, HBF2⟩; have hSf2 := HKS2.out wf2 (hbc2.trans (HBF2.out.mono hbc2.size)))
              | (go_at_call 25; refine (copied_n _ _ _ _ _ HVD2.out HVL.out (by omega)).mono ?_; rintro e wc2 ⟨c2, d2, rfl, hcc2, hbc2⟩; have hSc2 := HKS2.out wc2 hbc2)))
          all_goals
            obtain rfl := rk_uniq HI2.out HK2.out
            have HBwf2 := Kp.mk (HBwf1.out.trans ((hdr2.trans (hbc2.trans (HBF2.out.mono hbc2.size))).mono HBwf1.out.size))
            have x2g := ((hdr2.trans (hbc2.trans (HBF2.out.mono hbc2.size))).cell (p := ⟨b2, o2 + k, none⟩) (World.block_lt_of_cell? _ _ x2f)).trans x2f
            clear HVD2 HKS2 hdr2 hcc2 hbc2 HBF2 hSf2 HI2 HK2 x1f x2f
            have e5 : ((r1 + 1 : Nat) : Int) = (r1 : Int) + 1 := by omega
            go_wp2
            go_roundw
            case rel => exact ⟨k + 1, by omega, by go_num, HBwf2⟩
            case measure => simp [intOf]; omega
      · have hkz : ¬ (k : Int) < (n : Int) + 1 := by omega
        have hkz2 : decide ((k : Int) < (n : Int) + 1) = false := decide_eq_false hkz
        obtain ⟨wo, rfl⟩ : ∃ wo : World, wo = wr := ⟨_, rfl⟩
        have HVO := Kp.mk (HV7.out.below HBK.out)
        have HUO := Kp.mk (HU7.out.below HBK.out)
        have HBO := Kp.mk (HB7.out.trans (HBK.out.mono HB7.out.size))
        go_wp2
        go_loopw [17] (fun i wr => ∃ q : Nat, q ≤ u ∧ i = .int .i64 q ∧ Kp (Below wo.heap.size wo wr)) (fun i _ => u - (intOf i).toNat)
        case atStart => exact ⟨0, Nat.zero_le _, rfl, ⟨Below.refl _ _⟩⟩
        case round =>
          obtain ⟨q, hq, rfl, HBQ⟩ := hrel
          by_cases hqu : q < u
          rotate_left
          · have HBF := Kp.mk (HBO.out.trans (HBQ.out.mono HBO.out.size))
            go_wp2
            go_ret
            exact ⟨rfl, HBF.out⟩
          · obtain ⟨b1, o1, rfl, x1⟩ := (HUO.out.below HBQ.out).at q (by rw [HUL.out]; exact hqu)
            have hU := HF3.out q (by rw [HVL.out]; exact hqu)
            rw [getD_at _ _ (by rw [HUL.out]; exact hqu)] at hU
            rw [hU] at x1
            obtain ⟨b2, o2, rfl, x2⟩ := (HVO.out.below HBQ.out).at q (by rw [HVL.out]; exact hqu)
            clear hU
            rcases Nat.eq_zero_or_pos q with h0 | h0
            · subst h0
              rw [Nat.add_zero] at x1 x2
              go_wp2
              go_quiet (fail)
              have HBN := Kp.mk (HBQ.out.trans (drewN_below (w := wr) nq))
              go_wp2
              go_roundw
              case rel => exact ⟨1, by omega, by go_num, HBN⟩
              case measure => simp [intOf]; omega
            · obtain ⟨_, _, e6, x3⟩ := (HVO.out.below HBQ.out).at (q - 1) (by rw [HVL.out]; omega)
              simp only [Option.some.injEq, Addr.mk.injEq, and_true] at e6
              obtain ⟨rfl, rfl⟩ := e6
              have ho := up_lt HVU.out (show q - 1 < q by omega) (by rw [HVL.out]; exact hqu)
              rw [getD_at _ _ (by rw [HVL.out]; omega), getD_at _ _ (by rw [HVL.out]; omega)] at ho
              generalize V[q - 1]'(by rw [HVL.out]; omega) = y0 at *
              generalize V[q]'(by rw [HVL.out]; omega) = y1 at *
              have t1 : decide (y1 ≤ y0) = false := decide_eq_false (by omega)
              have t2 : ¬ y1 ≤ y0 := by omega
              have e7 : IntKind.i64.wrap ((q : Int) - 1) = ((q - 1 : Nat) : Int) := by rw [show (q : Int) - 1 = ((q - 1 : Nat) : Int) by omega]; exact IntWalk.i64_in _ (by omega)
              have hk1 : ((q - 1 : Nat) : Int) < u := by omega
              have hk2 : q - 1 < u := by omega
              have hk0 : (0 : Int) < q := by omega
              clear ho
              go_wp2
              go_quiet (fail)
              have HBN := Kp.mk (HBQ.out.trans (drewN_below (w := wr) nq))
              go_wp2
              go_roundw
              case rel => exact ⟨q + 1, by omega, by go_num, HBN⟩
              case measure => simp [intOf]; omega

end Go.Proofs.Ytjicgndahpffbaa

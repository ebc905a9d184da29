/- PersStays: the walk. -/
import Derived.Test.YtjicgndahpffbaaPersW
namespace Go.Proofs.Ytjicgndahpffbaa
set_option linter.unusedVariables false
open Go.RowKit

set_option maxRecDepth 100000 in
set_option maxHeartbeats 4000000 in
theorem walk_PersStays (a0 : Option Addr) (len0 cap0 : Nat) (z0 : List Int) (a1 : Option Addr) (len1 cap1 : Nat) (z1 : List Int) (w : World) (w0 : IsRow .i64 w a0 len0 cap0 z0) (w1 : IsFlat 4 w a1 len1 cap1 z1) :
    Calls Try.prog 14 #[.slice a0 len0 cap0, .slice a1 len1 cap1] w fun e w' => e = .returned (.bool true) ∧ Below w.heap.size w w' := by
  obtain ⟨l, rfl, hl, wl, nl⟩ := row_sl w0
  obtain ⟨L, hL, wL, nL⟩ := works_in w1
  unfold maxLen at nl nL
  have HL := Kp.mk hl
  have WL := Kp.mk wl
  have HWK := Kp.mk hL
  have WWK := Kp.mk wL
  obtain ⟨n, hn⟩ : ∃ n, n = (sgn l 40 500).length := ⟨_, rfl⟩
  have hn40 : n ≤ 40 := by rw [hn, sgn_length]; omega
  have HM := Kp.mk hn
  clear w0 w1 hl wl hL wL hn
  go_enter Try.func14, Try.ntmps14
  go_wp2_with fail
  refine (signed_any a0 cap0 40 500 l w HL.out (by omega) (by omega) (by omega) (by omega) WL.out).mono ?_
  rintro e w1 ⟨na, nc, rfl, hO, hb⟩
  unfold OwnI at hO
  rw [← HM.out] at hO ⊢
  have HO := Kp.mk hO
  have HB := Kp.mk hb
  have hsz := Kp.mk hb.size
  clear hO hb
  go_wp2_with (at_builtin; refine wpList_push tInts rfl _ _ rfl w.heap.size na n nc _ rfl HO.out 1 1 _ rfl rfl ?d1 (by decide) ?d2 (by decide) hsz.out ?d4)
  case d1 => simp [Value.oneCell']
  case d2 => omega
  case d4 =>
    intro sa sc w2 hown hbel
    have hb2 := HB.out.trans hbel
    have HNL := Kp.mk (show (sgn l 40 500 ++ [3]).length = n + 1 by rw [List.length_append, ← HM.out]; rfl)
    have HN := Kp.mk (show SlI w2 sa sc (sgn l 40 500 ++ [3]) from own_sl_len (by rw [ints_append]; exact hown) HNL.out)
    have HB2 := Kp.mk hb2
    have HWK2 := Kp.mk (HWK.out.below hb2)
    clear hown hbel HO HM hsz HB HL HWK hb2
    generalize sgn l 40 500 ++ [3] = N at *
    go_wp2_with fail
    refine (changes_any a1 cap1 len1 30 (n + 1) L w2 HWK2.out (by omega) (by omega) (by omega) (by omega) WWK.out).mono ?_
    rintro e w3 ⟨oa, oc, m, rfl, HCL, HCO, hb3⟩
    have HOK := Kp.mk (chsOf_ok L 30 (n + 1) (by omega))
    have hm30 : m ≤ 30 := by rw [← HCL.out, chsOf_length]; omega
    have HB3 := Kp.mk (HB2.out.trans (hb3.mono HB2.out.size))
    have HN3 := Kp.mk (HN.out.below hb3)
    have HCS := Kp.mk (show SlF chL 5 w3 oa m oc (chsOf L 30 (n + 1)) from own_slc HCO.out)
    clear hb3 HCO HB2 HN HWK2
    generalize chsOf L 30 (n + 1) = cs at *
    have HVN := Kp.mk (fun k (hk : k ≤ m) => vAt_length N cs (n + 1) HNL.out HOK.out k k (Nat.le_refl _) (by rw [HCL.out]; exact hk))
    go_wp2_with fail
    refine (versionsOf_any sa oa sc oc (n + 1) m N cs w3 HN3.out HNL.out HCS.out (by omega) (by omega) (by omega) HOK.out).mono ?_
    rintro e w4 ⟨va, vc, rfl, HR, HB4⟩
    have HKL := Kp.mk (valK_length N cs m)
    have HVG := Kp.mk (fun j (hj : j ≤ m) => valK_getD N cs m j hj)
    have HRA := Kp.mk (fun (W : World) (hW : Below w4.heap.size w4 W) (j : Nat) (hj : j ≤ m) => show ∃ b off ra rc, va = some ⟨b, off, none⟩ ∧ W.cell? ⟨b, off + j, none⟩ = some (.slice ra (n + 1) rc) ∧ SlI W ra rc (vAt N cs j) from by
      obtain ⟨b, off, ra, rc, e1, e2, e3⟩ := (HR.out.below hW).at j (by rw [HKL.out]; omega)
      have e : (valK N cs m)[j]'(by rw [HKL.out]; omega) = vAt N cs j := by
        rw [← HVG.out j hj, getD_at _ _ (by rw [HKL.out]; omega)]
      rw [e] at e2 e3
      rw [HVN.out j hj] at e2
      exact ⟨b, off, ra, rc, e1, e2, e3⟩)
    have HN4 := Kp.mk (HN3.out.below HB4.out)
    have HC4 := Kp.mk (HCS.out.below HB4.out)
    have HBW := Kp.mk (HB3.out.trans (HB4.out.mono HB3.out.size))
    have e1 : IntKind.i64.wrap ((m : Int) + 1) = (m : Int) + 1 := IntWalk.i64_in _ (by omega)
    clear HN3 HCS HB3 HB4
    go_wp2
    go_loopw [9] (fun i wr => ∃ k : Nat, k ≤ m + 1 ∧ i = .int .i64 k ∧ Kp (Below w4.heap.size w4 wr)) (fun i _ => m + 1 - (intOf i).toNat)
    case atStart => exact ⟨0, Nat.zero_le _, rfl, ⟨Below.refl _ _⟩⟩
    case round =>
      obtain ⟨k, hk, rfl, HBR⟩ := hrel
      by_cases hlt : k ≤ m
      · have hkz : (k : Int) ≤ m := by omega
        have hkoc : k ≤ oc := Nat.le_trans hlt HC4.out.le
        have hcap := HC4.out.le
        have HNR := Kp.mk (HN4.out.below HBR.out)
        have HCR := Kp.mk (HC4.out.below HBR.out)
        have HCF := Kp.mk (show SlF chL 5 wr oa k oc (cs.take k) from by
          have := SlC.front HCR.out hlt
          unfold SlF
          rw [← flat_take chL_len]; exact this)
        have HOF := Kp.mk (show ∀ j (h : j < (cs.take k).length), (cs.take k)[j].Ok j (n + 1) from fun j h => by
          rw [List.getElem_take]; exact HOK.out j _)
        go_wp2_with fail
        refine (versionsOf_any sa oa sc oc (n + 1) k N (cs.take k) wr HNR.out HNL.out HCF.out (by omega) (by omega) (by omega) HOF.out).mono ?_
        rintro e w5 ⟨pa, pc, rfl, HRP, HB5⟩
        have hk1 : IntKind.i64.wrap ((k : Int) + 1) = (k : Int) + 1 := IntWalk.i64_in _ (by omega)
        have HB45 := Kp.mk (HBR.out.trans (HB5.out.mono HBR.out.size))
        obtain ⟨vb, vo, ga, gc, rfl, y0, hs0⟩ := HRA.out w5 HB45.out k hlt
        obtain ⟨pb, po, xa, xc, rfl, x0, hx0⟩ := HRP.out.at k (by rw [valK_length]; omega)
        have e3 : (valK N (cs.take k) k)[k]'(by rw [valK_length]; omega) = vAt N cs k := by
          rw [← vAt_take N cs k k (Nat.le_refl _) (by rw [HCL.out]; exact hlt), ← valK_getD N (cs.take k) k k (Nat.le_refl _), getD_at _ _ (by rw [valK_length]; omega)]
        rw [e3, HVN.out k hlt] at x0
        rw [e3] at hx0
        have hdr : Below w5.heap.size w5 w5.drew := (Below.refl _ _).drew
        have CS := Kp.mk (sameInts_same xa ga xc gc (n + 1) _ _ w5.drew (hx0.below hdr) (hs0.below hdr) (HVN.out k hlt) (HVN.out k hlt) rfl (by omega))
        have HKS := Kp.mk (fun (w' : World) (hb : Below w5.drew.heap.size w5.drew w') => show w'.cell? ⟨pb, po + k, none⟩ = some (.slice xa (n + 1) xc) ∧ w'.cell? ⟨vb, vo + k, none⟩ = some (.slice ga (n + 1) gc) from by
          have hb' := hdr.trans hb
          exact ⟨(hb'.cell (p := ⟨pb, po + k, none⟩) (World.block_lt_of_cell? _ _ x0)).trans x0, (hb'.cell (p := ⟨vb, vo + k, none⟩) (World.block_lt_of_cell? _ _ y0)).trans y0⟩)
        clear hs0 hx0 e3 hdr HNR HCR HCF HOF
        have hkv : (k : Int) < (m : Int) + 1 := by omega
        have hkv2 : (k : Int) < (k : Int) + 1 := by omega
        go_wp2
        go_region_held3 (fun w' => w'.cell? ⟨pb, po + k, none⟩ = some (.slice xa (n + 1) xc) ∧ w'.cell? ⟨vb, vo + k, none⟩ = some (.slice ga (n + 1) gc))
          (first | exact ⟨x0, y0⟩ | exact hS6)
          ((first
            | (go_at_call 36; (with_reducible refine CS.out.mono ?_); rintro e w6 ⟨rfl, hb6⟩; have hS6 := HKS.out w6 hb6)))
        all_goals
          have HB6 := Kp.mk (show Below w4.heap.size w4 w6 from HB45.out.trans (((Below.refl w5.heap.size w5).drew.trans hb6).mono HB45.out.size))
          clear hb6 hS6 CS HKS x0 y0
          go_wp2
          go_roundw
          case rel => exact ⟨k + 1, by omega, by go_num, HB6⟩
          case measure => simp [intOf]; omega
      · have hkz : ¬ (k : Int) ≤ m := by omega
        obtain ⟨wo, rfl⟩ : ∃ wo : World, wo = wr := ⟨_, rfl⟩
        have HCW := Kp.mk (HC4.out.below HBR.out)
        clear HC4 HN4
        go_wp2
        go_loopw [12] (fun i wr => ∃ q : Nat, q ≤ m ∧ i = .int .i64 q ∧ Kp (Below wo.heap.size wo wr)) (fun i _ => m - (intOf i).toNat)
        case atStart => exact ⟨0, Nat.zero_le _, rfl, ⟨Below.refl _ _⟩⟩
        case round =>
          obtain ⟨q, hq, rfl, HBQ⟩ := hrel
          by_cases hqm : q < m
          rotate_left
          · obtain rfl : q = m := by omega
            have HBF := Kp.mk (HBW.out.trans ((HBR.out.trans (HBQ.out.mono HBR.out.size)).mono HBW.out.size))
            go_wp2
            go_ret
            exact ⟨rfl, HBF.out⟩
          · have hqc : q < cs.length := by rw [HCL.out]; exact hqm
            obtain ⟨b, off, rfl, hbw, co⟩ := (HCW.out.below HBQ.out).at chL_len (by omega) q hqc
            have ho := HOK.out q hqc
            have HVS := Kp.mk (vAt_succ N cs q (by rw [getD_at _ _ hqc]; exact ho.s) (by rw [getD_at _ _ hqc]; exact ho.w))
            rw [getD_at _ _ hqc] at HVS
            obtain ⟨c, hc⟩ : ∃ c, cs[q] = c := ⟨_, rfl⟩
            rw [hc] at co ho HVS
            obtain ⟨ck, cf, ct, cy, cw⟩ := c
            obtain ⟨hk1, hs, ha, hwi⟩ := ho
            dsimp only at hk1 hs ha hwi HVS
            have o0 : wr.cell? ⟨b, off + q * 5, none⟩ = some (.int .i64 ck) := co 0 (by omega)
            have o1 : wr.cell? ⟨b, off + q * 5 + 1, none⟩ = some (.int .i64 cf) := co 1 (by omega)
            have o2 : wr.cell? ⟨b, off + q * 5 + 2, none⟩ = some (.int .i64 ct) := co 2 (by omega)
            have o3 : wr.cell? ⟨b, off + q * 5 + 3, none⟩ = some (.int .i64 cy) := co 3 (by omega)
            have o4 : wr.cell? ⟨b, off + q * 5 + 4, none⟩ = some (.int .i64 cw) := co 4 (by omega)
            clear co hc
            have hq1 : IntKind.i64.wrap ((q : Int) + 1) = (q : Int) + 1 := IntWalk.i64_in _ (by omega)
            go_upto_region 16 with (fail)
            have hal := below_alloc (Nat.le_refl wr.heap.size) (.cells #[.int .i64 ck, .int .i64 cf, .int .i64 ct, .int .i64 cy, .int .i64 cw] 84)
            have HBX := Kp.mk (below_step HBQ.out hal)
            have HTB := Kp.mk (Box.new wr #[.int .i64 ck, .int .i64 cf, .int .i64 ct, .int .i64 cy, .int .i64 cw] 84)
            obtain ⟨bt, hbt⟩ : ∃ bt, bt = wr.heap.size := ⟨_, rfl⟩
            rw [← hbt] at HTB ⊢
            clear hal o0 o1 o2 o3 o4 hbw hbt
            generalize wr.alloc (.cells #[.int .i64 ck, .int .i64 cf, .int .i64 ct, .int .i64 cy, .int .i64 cw] 84) = wA at *
            have HB4A := Kp.mk (HBR.out.trans (HBX.out.mono HBR.out.size))
            obtain ⟨vb, vo, ra, rc, rfl, y1, s1⟩ := HRA.out wA HB4A.out cf (by omega)
            obtain ⟨_, _, ra2, rc2, e2, y2, s2⟩ := HRA.out wA HB4A.out cw (by omega)
            simp only [Option.some.injEq, Addr.mk.injEq, and_true] at e2
            obtain ⟨rfl, rfl⟩ := e2
            obtain ⟨_, _, ra3, rc3, e3, y3, s3⟩ := HRA.out wA HB4A.out (q + 1) (by omega)
            simp only [Option.some.injEq, Addr.mk.injEq, and_true] at e3
            obtain ⟨rfl, rfl⟩ := e3
            have HL1 := Kp.mk (HVN.out cf (by omega))
            have HL2 := Kp.mk (HVN.out cw (by omega))
            have HL3 := Kp.mk (HVN.out (q + 1) (by omega))
            have q0 : wA.cell? ⟨bt, 0, none⟩ = some (.int .i64 ck) := HTB.out.cell 0 rfl
            have q1 : wA.cell? ⟨bt, 1, none⟩ = some (.int .i64 cf) := HTB.out.cell 1 rfl
            have q2 : wA.cell? ⟨bt, 2, none⟩ = some (.int .i64 ct) := HTB.out.cell 2 rfl
            have q3 : wA.cell? ⟨bt, 3, none⟩ = some (.int .i64 cy) := HTB.out.cell 3 rfl
            have q4 : wA.cell? ⟨bt, 4, none⟩ = some (.int .i64 cw) := HTB.out.cell 4 rfl
            have HS1 := Kp.mk s1
            have HS2 := Kp.mk s2
            have HS3 := Kp.mk s3
            clear s1 s2 s3
            have hcfi : (cf : Int) < (m : Int) + 1 := by omega
            have hcwi : (cw : Int) < (m : Int) + 1 := by omega
            have hqi : (q : Int) + 1 < (m : Int) + 1 := by omega
            have hq10 : (0 : Int) ≤ (q : Int) + 1 := by omega
            have hqt : ((q : Int) + 1).toNat = q + 1 := by omega
            generalize vAt N cs cf = V1 at *
            generalize vAt N cs cw = V2 at *
            generalize vAt N cs (q + 1) = V3 at *
            obtain ⟨w8, rfl⟩ : ∃ w8 : World, w8 = wA := ⟨_, rfl⟩
            go_wp2
            go_loopw [14] (fun i wr => ∃ p : Nat, p ≤ n + 1 ∧ i = .int .i64 p ∧ wr = w8) (fun i _ => n + 1 - (intOf i).toNat)
            case atStart => exact ⟨0, Nat.zero_le _, rfl, rfl⟩
            case round =>
              obtain ⟨p, hp, rfl, rfl⟩ := hrel
              by_cases hpn : p < n + 1
              rotate_left
              · obtain rfl : p = n + 1 := by omega
                go_wp2
                go_roundw
                case rel => exact ⟨q + 1, by omega, by go_num, HBX⟩
                case measure => simp [intOf]; omega
              · obtain ⟨b1, f1, rfl, d1⟩ := HS1.out.at p (by rw [HL1.out]; exact hpn)
                obtain ⟨b2, f2, rfl, d2⟩ := HS2.out.at p (by rw [HL2.out]; exact hpn)
                obtain ⟨b3, f3, rfl, d3⟩ := HS3.out.at p (by rw [HL3.out]; exact hpn)
                have hpi : (p : Int) < (n : Int) + 1 := by omega
                have hp1 : IntKind.i64.wrap ((p : Int) + 1) = (p : Int) + 1 := IntWalk.i64_in _ (by omega)
                rcases hk1 with rfl | rfl
                · by_cases hpc : p = ct
                  · have hv : V3[p]'(by rw [HL3.out]; exact hpn) = cy := by
                      have h := HVS.out
                      rw [if_pos rfl] at h
                      subst hpc
                      simp [h]
                    rw [hv] at d3
                    subst hpc
                    clear HVS
                    go_wp2
                    go_roundw
                    case rel => exact ⟨p + 1, by omega, by go_num, trivial⟩
                    case measure => simp [intOf]; omega
                  · have hv : V3[p]'(by rw [HL3.out]; exact hpn) = V1[p]'(by rw [HL1.out]; exact hpn) := by
                      have h := HVS.out
                      rw [if_pos rfl] at h
                      simp only [h]
                      rw [List.getElem_set_ne (fun e => hpc e.symm)]
                    rw [hv] at d3
                    generalize V1[p]'(by rw [HL1.out]; exact hpn) = x1 at *
                    have t1 : ¬ (p : Int) = ct := by omega
                    have t2 : ((p : Int) == (ct : Int)) = false := beq_eq_false_iff_ne.2 t1
                    clear HVS hv
                    go_wp2
                    go_roundw
                    case rel => exact ⟨p + 1, by omega, by go_num, trivial⟩
                    case measure => simp [intOf]; omega
                · have h := HVS.out
                  rw [if_neg (by decide)] at h
                  by_cases hpc : p < ct
                  · have hv : V3[p]'(by rw [HL3.out]; exact hpn) = V1[p]'(by rw [HL1.out]; exact hpn) := by
                      simp only [h]
                      rw [List.getElem_append_left (by rw [List.length_take, HL1.out]; omega), List.getElem_take]
                    rw [hv] at d3
                    generalize V1[p]'(by rw [HL1.out]; exact hpn) = x1 at *
                    have t1 : ¬ (ct : Int) ≤ p := by omega
                    have t2 : decide ((ct : Int) ≤ p) = false := decide_eq_false t1
                    clear HVS hv h
                    go_wp2
                    go_roundw
                    case rel => exact ⟨p + 1, by omega, by go_num, trivial⟩
                    case measure => simp [intOf]; omega
                  · have hv : V3[p]'(by rw [HL3.out]; exact hpn) = V2[p]'(by rw [HL2.out]; exact hpn) := by
                      simp only [h]
                      rw [List.getElem_append_right (by rw [List.length_take, HL1.out]; omega), List.getElem_drop]
                      congr 1
                      rw [List.length_take, HL1.out]; omega
                    rw [hv] at d3
                    generalize V2[p]'(by rw [HL2.out]; exact hpn) = x2 at *
                    have t1 : (ct : Int) ≤ p := by omega
                    clear HVS hv h
                    go_wp2
                    go_roundw
                    case rel => exact ⟨p + 1, by omega, by go_num, trivial⟩
                    case measure => simp [intOf]; omega

end Go.Proofs.Ytjicgndahpffbaa

/- The walk of WaveSplit. -/
import Derived.Test.YtjicgndahpffbaaWavG
import Derived.Test.YtjicgndahpffbaaNum
namespace Go.Proofs.Ytjicgndahpffbaa
set_option linter.unusedVariables false
open Go.RowKit

theorem pow_cast (K : Nat) : (2 : Int) ^ K = ((2 ^ K : Nat) : Int) := by push_cast; rfl
/-- What Numbers gives below a power of two. -/
theorem nums_pow (l : List Int) (n K : Nat) : ∃ L : List Nat, nums l n (2 ^ K) = L.map Int.ofNat ∧ L.length ≤ n ∧ ∀ y ∈ L, y < 2 ^ K := by
  have hp : 0 < 2 ^ K := Nat.pow_pos (by omega)
  have h0 : (0 : Int) < 2 ^ K := by rw [pow_cast]; omega
  have hb := nums_bd l n (2 ^ K) h0
  refine ⟨(nums l n (2 ^ K)).map Int.toNat, nat_list _ (fun x hx => (hb x hx).1), by rw [List.length_map, nums_length]; omega, fun y hy => ?_⟩
  obtain ⟨x, hx, rfl⟩ := List.mem_map.1 hy
  have := hb x hx
  rw [pow_cast] at this
  omega

/-- Is a number among the first t? -/
def hasB (S : List Nat) (m t : Nat) : Bool := (S.take t).any (· == m)
theorem hasB_zero (S : List Nat) (m : Nat) : hasB S m 0 = false := by simp [hasB]
theorem hasB_succ (S : List Nat) (m t : Nat) (h : t < S.length) : hasB S m (t + 1) = (hasB S m t || S[t] == m) := by
  unfold hasB
  rw [List.take_succ_eq_append_getElem h, List.any_append]; simp
theorem hasB_all (S : List Nat) (m : Nat) (h : m ∈ S) : hasB S m S.length = true := by
  unfold hasB
  rw [List.take_length, List.any_eq_true]
  exact ⟨m, h, by simp⟩
attribute [irreducible] hasB

set_option maxRecDepth 100000 in
set_option maxHeartbeats 2000000 in
theorem walk_WaveSplit (a0 : Option Addr) (len0 cap0 : Nat) (z0 : List Int) (a1 : Int) (a2 : Int) (a3 : Int) (a4 : Int) (a5 : Int) (w : World) (w0 : IsRow .i64 w a0 len0 cap0 z0) (w1 : (Lit.int .i64 a1).wf = true) (w2 : (Lit.int .i64 a2).wf = true) (w3 : (Lit.int .i64 a3).wf = true) (w4 : (Lit.int .i64 a4).wf = true) (w5 : (Lit.int .i64 a5).wf = true) :
    Calls Try.prog 4 #[.slice a0 len0 cap0, .int .i64 a1, .int .i64 a2, .int .i64 a3, .int .i64 a4, .int .i64 a5] w fun e w' => e = .returned (.bool true) ∧ Below w.heap.size w w' := by
  obtain ⟨l, rfl, hl, wl, nl⟩ := row_sl w0
  obtain ⟨c1, c2⟩ := wf_bd w1
  obtain ⟨c3, c4⟩ := wf_bd w2
  obtain ⟨c5, c6⟩ := wf_bd w3
  obtain ⟨c7, c8⟩ := wf_bd w4
  obtain ⟨c9, c10⟩ := wf_bd w5
  unfold maxLen at nl
  have HL := Kp.mk hl
  have WL := Kp.mk wl
  obtain ⟨q1, hq1, l1⟩ := pick_nat a1 10 (by omega)
  obtain ⟨K, hK⟩ : ∃ K, K = 1 + q1 := ⟨_, rfl⟩
  have hKz : (1 : Int) + q1 = K := by omega
  have hK1 : 0 < K := by omega
  have hK2 : K ≤ 12 := by omega
  have HQ1 := Kp.mk hq1
  have HKZ := Kp.mk hKz
  have hp1 : (1 : Int) ≤ 2 ^ K ∧ (2 : Int) ^ K ≤ 4096 := by
    have h1 : 0 < 2 ^ K := Nat.pow_pos (by omega)
    have h2 : 2 ^ K ≤ 2 ^ 12 := Nat.pow_le_pow_right (by omega) hK2
    rw [pow_cast]; omega
  obtain ⟨p1, p2⟩ := hp1
  clear w0 w1 w2 w3 w4 w5 hl wl hq1 hK hKz
  go_enter Try.func4, Try.ntmps4
  go_wp2_with fail
  refine (picked_any a1 10 _ (by omega) (by omega) c1 c2).mono ?_
  rintro e w' ⟨rfl, rfl⟩
  rw [HQ1.out]
  go_upto_region 2 with (fail)
  rw [HKZ.out]
  go_wp2_with fail
  refine (numbers_any a0 cap0 60 (2 ^ K) l w HL.out (by omega) (by omega) (by omega) (by omega) WL.out).mono ?_
  rintro e wa ⟨na, nc, rfl, hO, hb⟩
  obtain ⟨L, hL, hL60, hLb⟩ := nums_pow l 60 K
  unfold OwnI at hO
  rw [hL] at hO ⊢
  have hlen : (L.map Int.ofNat).length = L.length := List.length_map _
  rw [hlen] at hO ⊢
  have HNS := Kp.mk (show SlC wa na L.length nc 1 (nts L) from by rw [nts_ints]; exact own_slc hO)
  have HB := Kp.mk hb
  have HLb := Kp.mk hLb
  obtain ⟨n, hn⟩ : ∃ n, L.length = n := ⟨_, rfl⟩
  rw [hn] at HNS hL60 ⊢
  have HN := Kp.mk hn
  have HLm := Kp.mk (show ∀ y ∈ L, y < 4096 from fun y hy => by
    have h2 : 2 ^ K ≤ 2 ^ 12 := Nat.pow_le_pow_right (by omega) hK2
    have := hLb y hy
    omega)
  clear hO hb hL hLb hlen hn HL WL
  go_wp2_with fail
  refine (waved_any na nc K n L wa HNS.out (by omega) hK1 (by omega) HLb.out).mono ?_
  rintro e wb ⟨sa, sc, rfl, HW, hb⟩
  have hal := below_alloc (Nat.le_refl wb.heap.size) (.cells #[.slice sa K sc] 27)
  have HWc := Kp.mk (HW.out.below hal)
  have HBc := Kp.mk (below_step (below_step HB.out hb) hal)
  have HNc := Kp.mk (SlC.below (SlC.below HNS.out hb) hal)
  have HBX := Kp.mk (Box.new wb #[.slice sa K sc] 27)
  obtain ⟨b7, hb7⟩ : ∃ b7, b7 = wb.heap.size := ⟨_, rfl⟩
  clear hb hal HW HB HNS
  go_upto_region 4 with (fail)
  rw [← hb7] at HBX ⊢
  generalize wb.alloc (.cells #[.slice sa K sc] 27) = wc at *
  clear hb7
  obtain ⟨i, hi, li⟩ := pick_nat a2 ((n : Int) + 1) (by omega)
  obtain ⟨q, hq, lq⟩ := pick_nat a3 ((n : Int) + 1 - i) (by omega)
  obtain ⟨j, hj⟩ : ∃ j, j = i + q := ⟨_, rfl⟩
  obtain ⟨d, hd, ld⟩ := pick_nat a4 ((j : Int) - i + 1) (by omega)
  obtain ⟨m, hm⟩ : ∃ m, m = i + d := ⟨_, rfl⟩
  obtain ⟨y, hy, ly⟩ := pick_nat a5 ((2 : Int) ^ K + 1) (by omega)
  have HJZ := Kp.mk (show (i : Int) + q = j by omega)
  have HMZ := Kp.mk (show (i : Int) + d = m by omega)
  have hij : i ≤ j := by omega
  have hjn : j ≤ n := by omega
  have him : i ≤ m := by omega
  have hmj : m ≤ j := by omega
  have hmn : m ≤ n := by omega
  have CI := Kp.mk (fun W => hi ▸ picked_any a2 ((n : Int) + 1) W (by omega) (by omega) c3 c4)
  have CQ := Kp.mk (fun W => hq ▸ picked_any a3 ((n : Int) + 1 - i) W (by omega) (by omega) c5 c6)
  have CD := Kp.mk (fun W => hd ▸ picked_any a4 ((j : Int) - i + 1) W (by omega) (by omega) c7 c8)
  have CY := Kp.mk (fun W => hy ▸ picked_any a5 ((2 : Int) ^ K + 1) W (by omega) (by omega) c9 c10)
  have hym : y ≤ 4096 := by omega
  clear hi hq hj hd hm hy
  go_wp2_with fail
  refine (CI.out _).mono ?_
  rintro e w' ⟨rfl, rfl⟩
  go_wp2_with fail
  refine (CQ.out _).mono ?_
  rintro e w' ⟨rfl, rfl⟩
  go_upto_region 6 with (fail)
  rw [HJZ.out]
  go_wp2_with fail
  refine (CD.out _).mono ?_
  rintro e w' ⟨rfl, rfl⟩
  go_upto_region 7 with (fail)
  rw [HMZ.out]
  go_wp2_with fail
  refine (CY.out _).mono ?_
  rintro e w' ⟨rfl, rfl⟩
  have hjn' : j ≤ L.length := by rw [HN.out]; exact hjn
  have hsj := sg_join L i m j him hmj hjn'
  have hadd := congrArg (fun S => cntBelow S y) hsj
  simp only [below_append] at hadd
  have hSl := sg_length L i j hjn'
  obtain ⟨S, hS⟩ : ∃ S, sg L i j = S := ⟨_, rfl⟩
  rw [hS] at hadd hSl
  have hl1 := below_le (sg L i m) y
  have hl2 := below_le (sg L m j) y
  rw [sg_length L i m (by omega)] at hl1
  rw [sg_length L m j hjn'] at hl2
  have HSX := Kp.mk (show ∀ t, i ≤ t → t < j → ∃ (h : t < L.length) (h2 : t - i < S.length), S[t - i] = L[t] from fun t h1 h2 => by
    have ht : t < L.length := by omega
    have hk : t - i < S.length := by omega
    refine ⟨ht, hk, ?_⟩
    have : ∀ (M : List Nat) (hM : M = (L.take j).drop i) (h : t - i < M.length), M[t - i] = L[t] := by
      intro M hM h
      subst hM
      rw [List.getElem_drop, List.getElem_take]
      congr 1; omega
    exact this S (by rw [← hS]; unfold sg; rfl) hk)
  have HS := Kp.mk hS
  have HSL := Kp.mk hSl
  have HADD := Kp.mk hadd
  obtain ⟨u1, hu1⟩ : ∃ u1, cntBelow (sg L i m) y = u1 := ⟨_, rfl⟩
  obtain ⟨u2, hu2⟩ : ∃ u2, cntBelow (sg L m j) y = u2 := ⟨_, rfl⟩
  obtain ⟨u3, hu3⟩ : ∃ u3, cntBelow S y = u3 := ⟨_, rfl⟩
  rw [hu1] at hl1 hadd HADD
  rw [hu2] at hl2 hadd HADD
  rw [hu3] at hadd HADD
  have HU1 := Kp.mk hu1
  have HU2 := Kp.mk hu2
  have HU3 := Kp.mk hu3
  have d0 : wc.cell? ⟨b7, 0, none⟩ = some (.slice sa K sc) := HBX.out.cell 0 rfl
  have C1 := Kp.mk (wBelow_any sa sc K n y i m L wc HWc.out HN.out (by omega) hK1 (by omega) him hmn HLb.out (by omega))
  rw [hu1] at C1
  clear hS hSl hsj hu1 hu2 hu3 CI CQ CD CY HJZ HMZ hjn'
  have hadz : (u1 : Int) + u2 = u3 := by omega
  have HADZ := Kp.mk hadz
  clear hadd hadz
  go_wp2_with fail
  refine C1.out.mono ?_
  rintro e wd ⟨rfl, hb⟩
  have HBD := Kp.mk hb
  have d1 : wd.cell? ⟨b7, 0, none⟩ = some (.slice sa K sc) := (HBX.out.below HBD.out).cell 0 rfl
  have C2 := Kp.mk (HU2.out ▸ wBelow_any sa sc K n y m j L wd (HWc.out.below HBD.out) HN.out (by omega) hK1 (by omega) hmj hjn HLb.out (by omega))
  clear hb d0 C1
  go_wp2_with fail
  refine C2.out.mono ?_
  rintro e we ⟨rfl, hb⟩
  have HBE := Kp.mk (below_step HBD.out hb)
  have d2 : we.cell? ⟨b7, 0, none⟩ = some (.slice sa K sc) := (HBX.out.below HBE.out).cell 0 rfl
  have C3 := Kp.mk (wBelow_any sa sc K n y i j L we (HWc.out.below HBE.out) HN.out (by omega) hK1 (by omega) hij hjn HLb.out (by omega))
  rw [HS.out, HU3.out] at C3
  clear hb d1 C2
  go_wp2_with fail
  refine C3.out.mono ?_
  rintro e wf ⟨rfl, hb⟩
  have HBF := Kp.mk (below_step HBE.out hb)
  have d3 : wf.cell? ⟨b7, 0, none⟩ = some (.slice sa K sc) := (HBX.out.below HBF.out).cell 0 rfl
  have C4 := Kp.mk (wNext_any sa sc K n y i j L wf (HWc.out.below HBF.out) HN.out (by omega) hK1 (by omega) hij hjn HLb.out (by omega))
  rw [HS.out] at C4
  clear hb d2 C3
  go_wp2_with fail
  refine C4.out.mono ?_
  rintro e wg ⟨hnx, hb⟩
  have HBG := Kp.mk (below_step HBF.out hb)
  have d4 : wg.cell? ⟨b7, 0, none⟩ = some (.slice sa K sc) := (HBX.out.below HBG.out).cell 0 rfl
  clear hb d3 C4
  unfold NextRet at hnx
  rw [HU3.out, HSL.out] at hnx
  have e1 : (u1 : Int) + u2 = u3 := HADZ.out
  rcases hnx with ⟨h1, rfl⟩ | ⟨h1, mm, rfl, hmm, HK⟩
  · have t1 : (((u3 : Nat) : Int) == (j : Int) - i) = true := by simp only [beq_iff_eq]; omega
    have HBH := Kp.mk (below_step HBc.out HBG.out)
    clear h1
    go_wp2
    go_ret
    exact ⟨rfl, HBH.out⟩
  · have hk := HK.out
    have hymm : y ≤ mm := by
      rcases Nat.lt_or_ge mm y with h | h
      · have h2 := below_mono S (mm + 1) y (by omega)
        have h3 := hk.2
        have := HU3.out
        omega
      · exact h
    have hcm : cntBelow S mm = u3 := by
      have h2 := below_mono S y mm hymm
      have h3 := hk.1
      have := HU3.out
      omega
    have HMEM := Kp.mk (hasB_all S mm hk.mem)
    rw [HSL.out] at HMEM
    have C5 := Kp.mk (wBelow_any sa sc K n mm i j L wg (HWc.out.below HBG.out) HN.out (by omega) hK1 (by omega) hij hjn HLb.out (by omega))
    rw [HS.out, hcm] at C5
    clear hk hcm HK h1
    go_wp2_with fail
    refine C5.out.mono ?_
    rintro e wh ⟨rfl, hb⟩
    have HBH := Kp.mk (below_step HBG.out hb)
    clear hb d4 C5
    go_wp2
    go_loop [31, 32] (fun hv t => ∃ k : Nat, i ≤ k ∧ k ≤ j ∧ t = .int .i64 k ∧ hv = .bool (hasB S mm (k - i))) (fun _ t => j - (intOf t).toNat)
    case atStart => exact ⟨i, Nat.le_refl _, hij, rfl, by rw [Nat.sub_self, hasB_zero]⟩
    case round =>
      obtain ⟨k, hk1, hk2, rfl, rfl⟩ := hrel
      by_cases hlt : k < j
      · obtain ⟨hkL, hkS, hx⟩ := HSX.out k hk1 hlt
        have hsu := hasB_succ S mm (k - i) hkS
        rw [show k - i + 1 = k + 1 - i by omega, hx] at hsu
        obtain ⟨nb, no, rfl, cx⟩ := slN_at (HNc.out.below HBH.out) k hkL
        have HSU := Kp.mk hsu
        clear hsu hx
        generalize L[k] = x at *
        cases hb : hasB S mm (k - i) with
        | true =>
          rw [hb] at HSU
          have HSV := Kp.mk (show hasB S mm (k + 1 - i) = true from HSU.out)
          clear hb
          go_wp2
          go_round
          case rel => exact ⟨k + 1, by omega, by omega, by go_num, by rw [HSV.out]⟩
          case measure => simp [intOf]; omega
        | false =>
          rw [hb] at HSU
          clear hb
          by_cases hxm : x = mm
          · have t1 : (((x : Nat) : Int) == (mm : Int)) = true := by simp only [beq_iff_eq]; omega
            have HSV := Kp.mk (show hasB S mm (k + 1 - i) = true from by rw [HSU.out, hxm]; simp)
            clear hxm
            go_wp2
            go_round
            case rel => exact ⟨k + 1, by omega, by omega, by go_num, by rw [HSV.out]⟩
            case measure => simp [intOf]; omega
          · have t1 : (((x : Nat) : Int) == (mm : Int)) = false := by simp only [beq_eq_false_iff_ne]; omega
            have HSV := Kp.mk (show hasB S mm (k + 1 - i) = false from by rw [HSU.out]; simpa using hxm)
            clear hxm
            go_wp2
            go_round
            case rel => exact ⟨k + 1, by omega, by omega, by go_num, by rw [HSV.out]⟩
            case measure => simp [intOf]; omega
      · obtain rfl : k = j := by omega
        rw [HMEM.out]
        have HBI := Kp.mk (below_step HBc.out HBH.out)
        have t1 : decide ((y : Int) ≤ mm) = true := decide_eq_true (by omega)
        have t2 : decide (y ≤ mm) = true := decide_eq_true hymm
        have t3 : (((u3 : Nat) : Int) == (u3 : Int)) = true := by simp
        go_wp2
        go_ret
        exact ⟨rfl, HBI.out⟩

end Go.Proofs.Ytjicgndahpffbaa

/- The walk of WaveSorts. -/
import Derived.Test.YtjicgndahpffbaaWavG
import Derived.Test.YtjicgndahpffbaaNum
namespace Go.Proofs.Ytjicgndahpffbaa
set_option linter.unusedVariables false
open Go.RowKit

theorem pow_cast (K : Nat) : (2 : Int) ^ K = ((2 ^ K : Nat) : Int) := by push_cast; rfl
/-- What Numbers gives below a power of two. -/
theorem nums_pow (l : List Int) (n K : Nat) : ∃ L : List Nat, nums l n (2 ^ K) = L.map Int.ofNat ∧ L.length ≤ n ∧ ∀ y ∈ L, y < 2 ^ K := by
  have hp : 0 < 2 ^ K := Nat.pow_pos (by omega)
  have h0 : (0 : Int) < 2 ^ K := by rw [pow_cast]; omega
  have hb := nums_bd l n (2 ^ K) h0
  refine ⟨(nums l n (2 ^ K)).map Int.toNat, nat_list _ (fun x hx => (hb x hx).1), by rw [List.length_map, nums_length]; omega, fun y hy => ?_⟩
  obtain ⟨x, hx, rfl⟩ := List.mem_map.1 hy
  have := hb x hx
  rw [pow_cast] at this
  omega

theorem take_sum (S : List Nat) (k : Nat) (h : k < S.length) : (S.take (k + 1)).sum = (S.take k).sum + S[k] := by
  rw [List.take_succ_eq_append_getElem h, List.sum_append]; rfl
theorem sum_le (S : List Nat) (h : ∀ y ∈ S, y < 4096) (k : Nat) : (S.take k).sum ≤ 4096 * k := by
  induction k with
  | zero => simp
  | succ k ih =>
    by_cases hk : k < S.length
    · rw [take_sum S k hk]
      have := h _ (List.getElem_mem hk)
      omega
    · rw [List.take_of_length_le (by omega)]
      rw [List.take_of_length_le (by omega)] at ih
      omega
theorem sum_all (S : List Nat) (h : ∀ y ∈ S, y < 4096) : S.sum ≤ 4096 * S.length := by
  have := sum_le S h S.length
  rwa [List.take_length] at this

set_option maxRecDepth 100000 in
set_option maxHeartbeats 2000000 in
theorem walk_WaveSorts (a0 : Option Addr) (len0 cap0 : Nat) (z0 : List Int) (a1 : Int) (a2 : Int) (a3 : Int) (w : World) (w0 : IsRow .i64 w a0 len0 cap0 z0) (w1 : (Lit.int .i64 a1).wf = true) (w2 : (Lit.int .i64 a2).wf = true) (w3 : (Lit.int .i64 a3).wf = true) :
    Calls Try.prog 5 #[.slice a0 len0 cap0, .int .i64 a1, .int .i64 a2, .int .i64 a3] w fun e w' => e = .returned (.bool true) ∧ Below w.heap.size w w' := by
  obtain ⟨l, rfl, hl, wl, nl⟩ := row_sl w0
  obtain ⟨c1, c2⟩ := wf_bd w1
  obtain ⟨c3, c4⟩ := wf_bd w2
  obtain ⟨c5, c6⟩ := wf_bd w3
  unfold maxLen at nl
  have HL := Kp.mk hl
  have WL := Kp.mk wl
  obtain ⟨q1, hq1, l1⟩ := pick_nat a1 10 (by omega)
  obtain ⟨K, hK⟩ : ∃ K, K = 1 + q1 := ⟨_, rfl⟩
  have hKz : (1 : Int) + q1 = K := by omega
  have hK1 : 0 < K := by omega
  have hK2 : K ≤ 12 := by omega
  have HQ1 := Kp.mk hq1
  have HKZ := Kp.mk hKz
  have hp1 : (1 : Int) ≤ 2 ^ K ∧ (2 : Int) ^ K ≤ 4096 := by
    have h1 : 0 < 2 ^ K := Nat.pow_pos (by omega)
    have h2 : 2 ^ K ≤ 2 ^ 12 := Nat.pow_le_pow_right (by omega) hK2
    rw [pow_cast]; omega
  obtain ⟨p1, p2⟩ := hp1
  clear w0 w1 w2 w3 hl wl hq1 hK hKz
  go_enter Try.func5, Try.ntmps5
  go_wp2_with fail
  refine (picked_any a1 10 _ (by omega) (by omega) c1 c2).mono ?_
  rintro e w' ⟨rfl, rfl⟩
  rw [HQ1.out]
  go_upto_region 2 with (fail)
  rw [HKZ.out]
  go_wp2_with fail
  refine (numbers_any a0 cap0 60 (2 ^ K) l w HL.out (by omega) (by omega) (by omega) (by omega) WL.out).mono ?_
  rintro e wa ⟨na, nc, rfl, hO, hb⟩
  obtain ⟨L, hL, hL60, hLb⟩ := nums_pow l 60 K
  unfold OwnI at hO
  rw [hL] at hO ⊢
  have hlen : (L.map Int.ofNat).length = L.length := List.length_map _
  rw [hlen] at hO ⊢
  have HNS := Kp.mk (show SlC wa na L.length nc 1 (nts L) from by rw [nts_ints]; exact own_slc hO)
  have HB := Kp.mk hb
  have HLb := Kp.mk hLb
  obtain ⟨n, hn⟩ : ∃ n, L.length = n := ⟨_, rfl⟩
  rw [hn] at HNS hL60 ⊢
  have HN := Kp.mk hn
  have HLm := Kp.mk (show ∀ y ∈ L, y < 4096 from fun y hy => by
    have h2 : 2 ^ K ≤ 2 ^ 12 := Nat.pow_le_pow_right (by omega) hK2
    have := hLb y hy
    omega)
  clear hO hb hL hLb hlen hn HL WL
  go_wp2_with fail
  refine (waved_any na nc K n L wa HNS.out (by omega) hK1 (by omega) HLb.out).mono ?_
  rintro e wb ⟨sa, sc, rfl, HW, hb⟩
  have hal := below_alloc (Nat.le_refl wb.heap.size) (.cells #[.slice sa K sc] 27)
  have HWc := Kp.mk (HW.out.below hal)
  have HBc := Kp.mk (below_step (below_step HB.out hb) hal)
  have HNc := Kp.mk (SlC.below (SlC.below HNS.out hb) hal)
  have HBX := Kp.mk (Box.new wb #[.slice sa K sc] 27)
  obtain ⟨b7, hb7⟩ : ∃ b7, b7 = wb.heap.size := ⟨_, rfl⟩
  clear hb hal HW HB HNS
  go_upto_region 4 with (fail)
  rw [← hb7] at HBX ⊢
  generalize wb.alloc (.cells #[.slice sa K sc] 27) = wc at *
  clear hb7
  obtain ⟨i, hi, li⟩ := pick_nat a2 ((n : Int) + 1) (by omega)
  obtain ⟨q, hq, lq⟩ := pick_nat a3 ((n : Int) + 1 - i) (by omega)
  obtain ⟨j, hj⟩ : ∃ j, j = i + q := ⟨_, rfl⟩
  have hjz : (i : Int) + q = j := by omega
  have hij : i ≤ j := by omega
  have hjn : j ≤ n := by omega
  have HJZ := Kp.mk hjz
  have CI := Kp.mk (fun W => hi ▸ picked_any a2 ((n : Int) + 1) W (by omega) (by omega) c3 c4)
  have CQ := Kp.mk (fun W => hq ▸ picked_any a3 ((n : Int) + 1 - i) W (by omega) (by omega) c5 c6)
  clear hi hq hj hjz
  go_wp2_with fail
  refine (CI.out _).mono ?_
  rintro e w' ⟨rfl, rfl⟩
  go_wp2_with fail
  refine (CQ.out _).mono ?_
  rintro e w' ⟨rfl, rfl⟩
  go_upto_region 6 with (fail)
  rw [HJZ.out]
  obtain ⟨S, hS⟩ : ∃ S, sg L i j = S := ⟨_, rfl⟩
  have hSl := sg_length L i j (by rw [HN.out]; exact hjn)
  rw [hS] at hSl
  have hSm : ∀ y ∈ S, y < 4096 := fun y hy => HLm.out y (by rw [← hS] at hy; unfold sg at hy; exact List.mem_of_mem_take (List.mem_of_mem_drop hy))
  obtain ⟨P, hP1, hP2⟩ := kth_exists S
  have hPl : P.length = j - i := by rw [hP1.length_eq, hSl]
  have hPm : ∀ y ∈ P, y < 4096 := fun y hy => hSm y (hP1.mem_iff.1 hy)
  have hsum : P.sum = S.sum := hP1.sum_nat
  have hSx : ∀ t, i ≤ t → t < j → ∃ h : t < L.length, L[t] < 4096 ∧ (S.take (t + 1 - i)).sum = (S.take (t - i)).sum + L[t] := fun t h1 h2 => by
    have ht : t < L.length := by rw [HN.out]; omega
    refine ⟨ht, HLm.out _ (List.getElem_mem ht), ?_⟩
    have hk : t - i < S.length := by omega
    rw [show t + 1 - i = t - i + 1 by omega, take_sum S _ hk]
    congr 1
    have : ∀ (M : List Nat) (hM : M = (L.take j).drop i) (h : t - i < M.length), M[t - i] = L[t] := by
      intro M hM h
      subst hM
      rw [List.getElem_drop, List.getElem_take]
      congr 1; omega
    exact this S (by rw [← hS]; unfold sg; rfl) hk
  have HSX := Kp.mk hSx
  have HSS := Kp.mk hS
  have HSL := Kp.mk hSl
  have HSM := Kp.mk hSm
  have HP1 := Kp.mk hP1
  have HP2 := Kp.mk hP2
  have HPL := Kp.mk hPl
  have HPM := Kp.mk hPm
  have HSUM := Kp.mk hsum
  have hn60 : j - i ≤ 60 := by omega
  clear hS hSl hSm hP1 hP2 hPl hPm hsum hSx CI CQ HJZ
  go_wp2
  go_loop [16, 17] (fun s t => ∃ k : Nat, i ≤ k ∧ k ≤ j ∧ t = .int .i64 k ∧ s = .int .i64 ((S.take (k - i)).sum : Nat)) (fun _ t => j - (intOf t).toNat)
  case atStart => exact ⟨i, Nat.le_refl _, hij, rfl, by simp⟩
  case round =>
    obtain ⟨k, hk1, hk2, rfl, rfl⟩ := hrel
    have hsl := sum_le S HSM.out (k - i)
    by_cases hlt : k < j
    · obtain ⟨hkL, hxm, hs⟩ := HSX.out k hk1 hlt
      obtain ⟨nb, no, rfl, cx⟩ := slN_at HNc.out k hkL
      have HS := Kp.mk hs
      clear hs
      generalize L[k] = x at *
      generalize (S.take (k - i)).sum = y at *
      go_wp2
      go_round
      case rel => exact ⟨k + 1, by omega, by omega, by go_num, by rw [HS.out]; go_num⟩
      case measure => simp [intOf]; omega
    · obtain rfl : k = j := by omega
      have e0 : (S.take (k - i)).sum = P.sum := by rw [List.take_of_length_le (by rw [HSL.out]; exact Nat.le_refl _), HSUM.out]
      have hpl := sum_all P HPM.out
      rw [HPL.out] at hpl
      rw [e0]
      clear e0 hsl
      go_wp2
      go_loopw [15, 16, 18] (fun lv sv tv wr => ∃ (t x r : Nat), t ≤ k - i ∧ tv = .int .i64 t ∧ lv = .int .i64 x ∧ sv = .int .i64 r ∧ Kp (r + (P.take t).sum = P.sum) ∧ Kp (x = if t = 0 then 0 else P.getD (t - 1) 0) ∧ Kp (Below wc.heap.size wc wr)) (fun _ _ tv _ => k - i - (intOf tv).toNat)
      case atStart => exact ⟨0, 0, P.sum, Nat.zero_le _, rfl, rfl, rfl, ⟨by simp⟩, ⟨by simp⟩, ⟨Below.refl _ _⟩⟩
      case round =>
        obtain ⟨t, x, r, ht, rfl, rfl, rfl, HR, HX, HBL⟩ := hrel
        have hki : ((k - i : Nat) : Int) = (k : Int) - i := by omega
        have hrs : r ≤ P.sum := by have := HR.out; omega
        by_cases htl : t < k - i
        · have htP : t < P.length := by rw [HPL.out]; exact htl
          have htz : (t : Int) < (k : Int) - i := by omega
          have hKP := (sorted_kth HP2.out t htP).perm HP1.out
          have d0 : wr.cell? ⟨b7, 0, none⟩ = some (.slice sa K sc) := (HBX.out.below HBL.out).cell 0 rfl
          have C1 := Kp.mk (wKth_any sa sc K n i k t L wr (HWc.out.below HBL.out) HN.out (by omega) hK1 (by omega) hij hjn HLb.out (by omega))
          have hym := HPM.out _ (List.getElem_mem htP)
          have hxy : x ≤ P[t] := by
            rw [HX.out]
            by_cases h0 : t = 0
            · rw [if_pos h0]; exact Nat.zero_le _
            · rw [if_neg h0, getD_at _ _ (by omega)]
              exact List.pairwise_iff_getElem.1 HP2.out _ _ (by omega) htP (by omega)
          have hrt := take_sum P t htP
          have hrr := HR.out
          have hle : (P.take (t + 1)).sum ≤ P.sum := by
            have h := List.take_append_drop (t + 1) P
            have := congrArg List.sum h
            rw [List.sum_append] at this
            omega
          have HNX := Kp.mk (show (r - P[t]) + (P.take (t + 1)).sum = P.sum from by omega)
          have hry : P[t] ≤ r := by omega
          have HY := Kp.mk (show P[t] = if t + 1 = 0 then 0 else P.getD (t + 1 - 1) 0 from by rw [if_neg (by omega), Nat.add_sub_cancel, getD_at _ _ htP])
          have HK := Kp.mk hKP
          clear hrt hrr hle hKP
          generalize P[t] = y at *
          rw [HSS.out] at C1
          go_wp2_with fail
          refine C1.out.mono ?_
          rintro e wd ⟨⟨m, rfl, _, HM⟩, hbd⟩
          obtain rfl : y = m := HK.out.uniq HM.out
          have HBD := Kp.mk (below_step HBL.out hbd)
          have d1 : wd.cell? ⟨b7, 0, none⟩ = some (.slice sa K sc) := (HBX.out.below HBD.out).cell 0 rfl
          have C2 := Kp.mk (wBelow_any sa sc K n y i k L wd (HWc.out.below HBD.out) HN.out (by omega) hK1 (by omega) hij hjn HLb.out (by omega))
          rw [HSS.out] at C2
          have hk1' := HK.out.1
          have hk2' := HK.out.2
          clear hbd d0 C1
          generalize cntBelow S y = u at *
          go_wp2_with fail
          refine C2.out.mono ?_
          rintro e we ⟨rfl, hbe⟩
          have HBE := Kp.mk (below_step HBD.out hbe)
          have d2 : we.cell? ⟨b7, 0, none⟩ = some (.slice sa K sc) := (HBX.out.below HBE.out).cell 0 rfl
          have C3 := Kp.mk (wBelow_any sa sc K n (y + 1) i k L we (HWc.out.below HBE.out) HN.out (by omega) hK1 (by omega) hij hjn HLb.out (by omega))
          rw [HSS.out, show ((y + 1 : Nat) : Int) = (y : Int) + 1 from by omega] at C3
          clear hbe d1 C2
          generalize cntBelow S (y + 1) = v at *
          go_wp2_with fail
          refine C3.out.mono ?_
          rintro e wf ⟨rfl, hbf⟩
          have HBF := Kp.mk (below_step HBE.out hbf)
          clear hbf d2 C3
          have t1 : decide ((y : Int) < x) = false := decide_eq_false (by omega)
          have t2 : decide ((t : Int) < u) = false := decide_eq_false (by omega)
          have t3 : decide ((v : Int) ≤ t) = false := decide_eq_false (by omega)
          have t4 : decide (y < x) = false := decide_eq_false (by omega)
          have t5 : decide (t < u) = false := decide_eq_false (by omega)
          have t6 : decide (v ≤ t) = false := decide_eq_false (by omega)
          go_wp2
          go_roundw
          case rel => exact ⟨t + 1, y, r - y, by omega, by go_num, rfl, by congr 1; omega, HNX, HY, HBF⟩
          case measure => simp [intOf]; omega
        · obtain rfl : t = k - i := by omega
          have htz : ¬ (((k - i : Nat) : Int) < (k : Int) - i) := by omega
          have hr0 : r = 0 := by
            have := HR.out
            rw [List.take_of_length_le (by rw [HPL.out]; exact Nat.le_refl _)] at this
            omega
          subst hr0
          have d0 : wr.cell? ⟨b7, 0, none⟩ = some (.slice sa K sc) := (HBX.out.below HBL.out).cell 0 rfl
          have C1 := Kp.mk (wKth_none sa sc K n i k L wr (HWc.out.below HBL.out) HN.out (by omega) hK1 (by omega) hij hjn)
          rw [hki] at C1
          go_wp2_with fail
          refine C1.out.mono ?_
          rintro e wd ⟨rfl, hbd⟩
          have HBD := Kp.mk (below_step HBc.out (below_step HBL.out hbd))
          clear hbd C1 d0
          go_wp2
          go_ret
          exact ⟨rfl, HBD.out⟩

end Go.Proofs.Ytjicgndahpffbaa

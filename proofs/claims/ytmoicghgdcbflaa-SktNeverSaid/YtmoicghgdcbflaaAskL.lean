/- The walk of SktNever. -/
import Derived.Test.YtmoicghgdcbflaaAsk
namespace Go.Proofs.Ytmoicghgdcbflaa
set_option linter.unusedVariables false
open Go.RowKit

theorem smake_n (a : Option Addr) (cap n R : Nat) (ks : List Nat) (w : World) (h : SlI w a cap (ks.map Int.ofNat)) (hn : Kp (ks.length = n)) (hl : n ≤ 300) (hR0 : 1 ≤ R) (hR : R ≤ 8) (hk : Kp (∀ i, i < n → ks.getD i 0 ≤ 1048576)) :
    Kp (Calls Try.prog 35 #[.int .i64 R, .slice a n cap] w (fun e w' => ∃ oa oc, e = .returned (.tuple #[.slice oa R oc, .int .i64 0]) ∧ RowsI w' oa R oc (skL ks R) ∧ Below w.heap.size w w')) :=
  ⟨smake_any a cap n R ks w h hn.out hl hR0 hR hk.out⟩

set_option maxRecDepth 100000 in
set_option maxHeartbeats 1000000 in
theorem walk_SktNever (a0 : Option Addr) (len0 cap0 : Nat) (z0 : List Int) (a1 : Int) (a2 : Int) (w : World) (w0 : IsRow .i64 w a0 len0 cap0 z0) (w1 : (Lit.int .i64 a1).wf = true) (w2 : (Lit.int .i64 a2).wf = true) :
    Calls Try.prog 12 #[.slice a0 len0 cap0, .int .i64 a1, .int .i64 a2] w fun e w' => e = .returned (.bool true) ∧ Below w.heap.size w w' := by
  obtain ⟨l, rfl, hl, wl, nl⟩ := row_sl w0
  obtain ⟨b1, b2⟩ := wf_bd w1
  obtain ⟨b3, b4⟩ := wf_bd w2
  have HL := Kp.mk hl
  have WL := Kp.mk wl
  unfold maxLen at nl
  have hpb := pick_bd a1 7 (by omega)
  obtain ⟨m, hm⟩ : ∃ q : Nat, pick a1 7 = q := ⟨_, (Int.toNat_of_nonneg hpb.1).symm⟩
  have hpb2 := pick_bd a2 500 (by omega)
  obtain ⟨k, hk⟩ : ∃ q : Nat, pick a2 500 = q := ⟨_, (Int.toNat_of_nonneg hpb2.1).symm⟩
  obtain ⟨R, hR⟩ : ∃ R, R = m + 1 := ⟨_, rfl⟩
  have e1 : (1 : Int) + (m : Int) = (R : Int) := by omega
  have hR1 : 1 ≤ R := by omega
  have hR7 : R ≤ 7 := by omega
  have hm7 : m ≤ 7 := by omega
  have hk5 : k ≤ 500 := by omega
  have HM := Kp.mk hm
  have HK := Kp.mk hk
  clear w0 w1 w2 hl wl hpb hpb2 hm hk hR
  go_enter Try.func12, Try.ntmps12
  go_wp2_with fail
  refine (numbers_any a0 cap0 100 500 l w HL.out (by omega) (by omega) (by omega) (by omega) WL.out).mono ?_
  rintro e wa ⟨sn, cn, rfl, hown, hbel⟩
  obtain ⟨ks, hL, hLL, hlt⟩ := nums_nat l 100 500 (by omega)
  have hn100 : (nums l 100 500).length ≤ 100 := by rw [nums_length]; omega
  have hS := hown.sl
  rw [hL] at hS
  generalize (nums l 100 500).length = n at *
  have HN := Kp.mk hLL
  have HLN : Kp ((ks.map Int.ofNat).length = n) := ⟨by rw [List.length_map]; exact HN.out⟩
  have HKS : Kp (∀ i, i < n → ks.getD i 0 ≤ 1048576) := ⟨fun i hi => by
    have := hlt i (by rw [HN.out]; exact hi)
    omega⟩
  have HS := Kp.mk hS
  have HB := Kp.mk hbel
  clear hL hLL hlt hS hown hbel
  go_wp2_with fail
  refine (picked_any a1 7 _ (by omega) (by omega) b1 b2).mono ?_
  rintro e w' ⟨rfl, rfl⟩
  rw [HM.out]
  go_wp2_with fail
  refine (picked_any a2 500 _ (by omega) (by omega) b3 b4).mono ?_
  rintro e w' ⟨rfl, rfl⟩
  rw [HK.out]
  go_wp2_with fail
  refine (copied_n sn cn n _ _ HS.out HLN.out (by omega)).mono ?_
  rintro e wb ⟨s1, c1, rfl, hS1, hb1⟩
  have HB1 := Kp.mk (below_step HB.out hb1)
  have HS1 := Kp.mk (HS.out.below hb1)
  clear hb1 HB HS
  go_wp2_with fail
  have C := smake_n s1 c1 n R ks wb hS1 HN (by omega) hR1 (by omega) HKS
  clear hS1
  refine C.out.mono ?_
  rintro e wc ⟨st, ct, rfl, hT, hb⟩
  have HT := Kp.mk hT
  have HB2 := Kp.mk (below_step HB1.out hb)
  have HS2 := Kp.mk (HS1.out.below hb)
  clear hb hT C HB1 HS1
  go_wp2_with fail
  refine (copied_n sn cn n _ _ HS2.out HLN.out (by omega)).mono ?_
  rintro e wd ⟨s2, c2, rfl, hS1, hb1⟩
  have HB3 := Kp.mk (below_step HB2.out hb1)
  have HS3 := Kp.mk (HS2.out.below hb1)
  have HT3 := Kp.mk (HT.out.below hb1)
  clear hb1 HB2 HS2 HT
  go_wp2_with fail
  have C := smake_n s2 c2 n (R + 1) ks wd hS1 HN (by omega) (by omega) (by omega) HKS
  rw [show ((R + 1 : Nat) : Int) = (R : Int) + 1 by push_cast; rfl] at C
  clear hS1
  refine C.out.mono ?_
  rintro e we ⟨su, cu, rfl, hU, hb⟩
  have HU := Kp.mk hU
  have HB4 := Kp.mk (below_step HB3.out hb)
  have HS4 := Kp.mk (HS3.out.below hb)
  have HT4 := Kp.mk (HT3.out.below hb)
  clear hb hU C HB3 HS3 HT3
  have A1 := Kp.mk (ask_any st ct R k ks we HT4.out hR1 (by omega) (by omega) (by rw [HN.out]; omega))
  have A2 := Kp.mk (ask_any su cu (R + 1) k ks we HU.out (by omega) (by omega) (by omega) (by rw [HN.out]; omega))
  have q1 := askN_mono ks k R
  have q2 := askN_len ks k R hR1
  have q3 := key_ask ks k (R + 1) (by rw [HN.out]; omega)
  rw [HN.out] at q2 q3
  generalize askN ks k R = x at *
  generalize askN ks k (R + 1) = y at *
  go_wp2_with fail
  refine A1.out.mono ?_
  rintro e w' ⟨rfl, rfl⟩
  go_wp2_with fail
  refine A2.out.mono ?_
  rintro e w' ⟨rfl, rfl⟩
  clear A1 A2 HT4 HU e1
  go_wp2
  go_loop [18, 19] (fun s i => ∃ j : Nat, j ≤ n ∧ i = .int .i64 j ∧ s = .int .i64 (keyN ks k j : Nat)) (fun _ i => n - (intOf i).toNat)
  case atStart => exact ⟨0, Nat.zero_le _, rfl, by rw [keyN_zero]; rfl⟩
  case round =>
    obtain ⟨j, hj, rfl, rfl⟩ := hrel
    have hkl := keyN_le ks k j
    by_cases hlt : j < n
    · obtain ⟨b, off, rfl, c1⟩ := HS4.out.at j (by rw [HLN.out]; exact hlt)
      have hjk : j < ks.length := by rw [HN.out]; exact hlt
      have e2 : (ks.map Int.ofNat)[j]'(by rw [List.length_map]; exact hjk) = ((ks[j] : Nat) : Int) := by simp
      rw [e2] at c1
      have hsu := keyN_succ ks k j hjk
      clear e2
      generalize ks[j] = v at *
      by_cases hvk : v = k
      · have t1 : ((v : Int) == k) = true := by rw [hvk]; simp
        rw [if_pos hvk] at hsu
        have HSU := Kp.mk hsu
        clear hsu hvk
        generalize keyN ks k j = z at *
        go_wp2
        go_round
        case rel => exact ⟨j + 1, by omega, by go_num, by rw [HSU.out]; go_num⟩
        case measure => simp [intOf]; omega
      · have t1 : ((v : Int) == k) = false := beq_eq_false_iff_ne.2 (by omega)
        rw [if_neg hvk] at hsu
        have HSU := Kp.mk hsu
        clear hsu hvk
        generalize keyN ks k j = z at *
        go_wp2
        go_round
        case rel => exact ⟨j + 1, by omega, by go_num, by rw [HSU.out]; rfl⟩
        case measure => simp [intOf]; omega
    · obtain rfl : j = n := by omega
      generalize keyN ks k j = z at *
      go_wp2
      go_ret
      exact ⟨rfl, HB4.out⟩

end Go.Proofs.Ytmoicghgdcbflaa

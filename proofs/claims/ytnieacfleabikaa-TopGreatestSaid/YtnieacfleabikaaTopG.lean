/- The walk of TopGreatest. -/
import Derived.Test.YtnieacfleabikaaTopL
namespace Go.Proofs.Ytnieacfleabikaa
set_option linter.unusedVariables false
open Go.RowKit

set_option maxRecDepth 100000 in
set_option maxHeartbeats 1000000 in
theorem walk_TopGreatest (a0 : Option Addr) (len0 cap0 : Nat) (z0 : List Int) (a1 : Int) (a2 : Int) (w : World) (w0 : IsRow .i64 w a0 len0 cap0 z0) (w1 : (Lit.int .i64 a1).wf = true) (w2 : (Lit.int .i64 a2).wf = true) :
    Calls Try.prog 8 #[.slice a0 len0 cap0, .int .i64 a1, .int .i64 a2] w fun e w' => e = .returned (.bool true) ∧ Below w.heap.size w w' := by
  obtain ⟨l, rfl, hl, wl, nl⟩ := row_sl w0
  obtain ⟨c1, c2⟩ := wf_bd w1
  obtain ⟨d1, d2⟩ := wf_bd w2
  unfold maxLen at nl
  have HL := Kp.mk hl
  have WL := Kp.mk wl
  obtain ⟨m, hm⟩ : ∃ m, m = (nums l 80 9).length := ⟨_, rfl⟩
  have hm80 : m ≤ 80 := by rw [hm, nums_length]; omega
  obtain ⟨i, hi, il⟩ := pick_nat a1 ((m : Int) + 1) (by omega)
  obtain ⟨q, hq, ql⟩ := pick_nat a2 ((m : Int) + 1 - i) (by omega)
  obtain ⟨k, hk⟩ : ∃ k, k = i + q := ⟨_, rfl⟩
  have hik : (i : Int) + q = k := by omega
  have hkm : k < m + 1 := by omega
  have hikn : i ≤ k := by omega
  have HI := Kp.mk hi
  have HQ := Kp.mk hq
  have HM := Kp.mk hm
  clear w0 w1 w2 hl wl hi hq hk hm
  go_enter Try.func8, Try.ntmps8
  go_wp2_with fail
  refine (numbers_any a0 cap0 80 9 l w HL.out (by omega) (by omega) (by omega) (by omega) WL.out).mono ?_
  rintro e w1 ⟨na, nc, rfl, hO, hb⟩
  unfold OwnI at hO
  rw [← HM.out] at hO ⊢
  have HO := Kp.mk hO
  have HB := Kp.mk hb
  have hsz := Kp.mk hb.size
  clear hO hb
  go_wp2_with (at_builtin; refine wpList_push tInts rfl _ _ rfl w.heap.size na m nc _ rfl HO.out 1 1 _ rfl rfl ?c1 (by decide) ?c2 (by decide) hsz.out ?c4)
  case c1 => simp [Value.oneCell']
  case c2 => omega
  case c4 =>
    intro sa sc w2 hown hbel
    have HB2 := Kp.mk (HB.out.trans hbel)
    have HN := Kp.mk (show SlI w2 sa sc (nums l 80 9 ++ [4]) from by
      exact own_sl_len (l := nums l 80 9 ++ [4]) (by rw [ints_append]; exact hown) (by rw [List.length_append, ← HM.out]; rfl))
    have HNL := Kp.mk (show (nums l 80 9 ++ [4]).length = m + 1 by rw [List.length_append, ← HM.out]; rfl)
    clear hown hbel HO HM
    generalize nums l 80 9 ++ [4] = N at *
    go_wp2_with fail
    refine (picked_any a1 ((m : Int) + 1) _ (by omega) (by omega) c1 c2).mono ?_
    rintro e w' ⟨rfl, rfl⟩
    rw [HI.out]
    go_wp2_with fail
    refine (picked_any a2 ((m : Int) + 1 - i) _ (by omega) (by omega) d1 d2).mono ?_
    rintro e w' ⟨rfl, rfl⟩
    rw [HQ.out]
    go_wp2_with fail
    have CT := topped_any sa sc (m + 1) i k N w2 HN.out HNL.out (by omega) hikn hkm
    refine CT.mono ?_
    clear CT
    rintro e w3 ⟨rfl, hb⟩
    have HB3 := Kp.mk (below_step HB2.out hb)
    have HN3 := Kp.mk (HN.out.below hb)
    have HT := Kp.mk (tix_top N i (k + 1 - i) (by omega))
    have tb := tix_bd N i (k + 1 - i) (by omega)
    clear hb
    generalize tix N i (k + 1 - i) = t at *
    have t1 : i ≤ t := tb.1
    have t2 : t ≤ k := by omega
    clear tb
    go_wp2
    go_loopw [11] (fun v wr => ∃ j : Nat, i ≤ j ∧ j ≤ k + 1 ∧ v = .int .i64 j ∧ Kp (Drew w3 wr)) (fun v _ => k + 1 - (intOf v).toNat)
    case atStart => exact ⟨i, Nat.le_refl _, by omega, rfl, ⟨Drew.refl _⟩⟩
    case round =>
      obtain ⟨j, hj, hj2, rfl, HD⟩ := hrel
      obtain ⟨nd, rfl⟩ := HD.out
      by_cases hlt : j ≤ k
      · have hT := HT.out.2.2 j hj (by omega)
        have hjl : j < N.length := by rw [HNL.out]; omega
        have htl : t < N.length := by rw [HNL.out]; omega
        obtain ⟨b, off, rfl, cj⟩ := HN3.out.at j hjl
        obtain ⟨b', off', hb, ct⟩ := HN3.out.at t htl
        simp only [Option.some.injEq, Addr.mk.injEq, and_true] at hb
        obtain ⟨rfl, rfl⟩ := hb
        rw [← at0_get hjl] at cj
        rw [← at0_get htl] at ct
        have i1 : (j : Int) < (m : Int) + 1 := by omega
        have i2 : (t : Int) < (m : Int) + 1 := by omega
        clear hjl htl
        generalize at0 N j = u at *
        generalize at0 N t = v at *
        have f1 : decide (v < u) = false := decide_eq_false (by omega)
        rcases hT with hT | ⟨hT, hTj⟩
        · have f2 : (u == v) = false := by simp; omega
          clear hT
          go_wp2
          go_quiet (fail)
          go_wp2
          go_roundw
          case rel => exact ⟨j + 1, by omega, by omega, by go_num, ⟨⟨_, rfl⟩⟩⟩
          case measure => simp [intOf]; omega
        · have f2 : (u == v) = true := by simpa using hT
          have f3 : decide (j < t) = false := decide_eq_false (by omega)
          clear hT
          go_wp2
          go_quiet (fail)
          go_wp2
          go_roundw
          case rel => exact ⟨j + 1, by omega, by omega, by go_num, ⟨⟨_, rfl⟩⟩⟩
          case measure => simp [intOf]; omega
      · go_wp2
        go_ret
        exact ⟨rfl, below_drewN HB3.out _⟩

end Go.Proofs.Ytnieacfleabikaa

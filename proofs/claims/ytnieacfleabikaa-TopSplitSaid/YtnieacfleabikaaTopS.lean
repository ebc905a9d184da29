/- The walk of TopSplit. -/
import Derived.Test.YtnieacfleabikaaTopL
namespace Go.Proofs.Ytnieacfleabikaa
set_option linter.unusedVariables false
open Go.RowKit

set_option maxRecDepth 100000 in
set_option maxHeartbeats 1000000 in
theorem walk_TopSplit (a0 : Option Addr) (len0 cap0 : Nat) (z0 : List Int) (a1 : Int) (a2 : Int) (a3 : Int) (w : World) (w0 : IsRow .i64 w a0 len0 cap0 z0) (w1 : (Lit.int .i64 a1).wf = true) (w2 : (Lit.int .i64 a2).wf = true) (w3 : (Lit.int .i64 a3).wf = true) :
    Calls Try.prog 9 #[.slice a0 len0 cap0, .int .i64 a1, .int .i64 a2, .int .i64 a3] w fun e w' => e = .returned (.bool true) ∧ Below w.heap.size w w' := by
  obtain ⟨l, rfl, hl, wl, nl⟩ := row_sl w0
  obtain ⟨c1, c2⟩ := wf_bd w1
  obtain ⟨d1, d2⟩ := wf_bd w2
  obtain ⟨e1, e2⟩ := wf_bd w3
  unfold maxLen at nl
  have HL := Kp.mk hl
  have WL := Kp.mk wl
  obtain ⟨m, hm⟩ : ∃ m, m = (nums l 80 20).length := ⟨_, rfl⟩
  have hm80 : m ≤ 80 := by rw [hm, nums_length]; omega
  obtain ⟨i, hi, il⟩ := pick_nat a1 ((m : Int) + 1) (by omega)
  obtain ⟨q, hq, ql⟩ := pick_nat a2 ((m : Int) + 1 - i) (by omega)
  obtain ⟨k, hk⟩ : ∃ k, k = i + 1 + q := ⟨_, rfl⟩
  have hik : (i : Int) + 1 + q = k := by omega
  have hkm : k < m + 2 := by omega
  obtain ⟨r, hr, rl⟩ := pick_nat a3 ((k : Int) - i) (by omega)
  obtain ⟨s, hs⟩ : ∃ s, s = i + r := ⟨_, rfl⟩
  have his : (i : Int) + r = s := by omega
  have hik2 : i < k := by omega
  have his2 : i ≤ s := by omega
  have hsk : s < k := by omega
  have HI := Kp.mk hi
  have HQ := Kp.mk hq
  have HR := Kp.mk hr
  have HM := Kp.mk hm
  clear w0 w1 w2 w3 hl wl hi hq hk hm hr hs
  go_enter Try.func9, Try.ntmps9
  go_wp2_with fail
  refine (numbers_any a0 cap0 80 20 l w HL.out (by omega) (by omega) (by omega) (by omega) WL.out).mono ?_
  rintro e w1 ⟨na, nc, rfl, hO, hb⟩
  unfold OwnI at hO
  rw [← HM.out] at hO ⊢
  have HO := Kp.mk hO
  have HB := Kp.mk hb
  have hsz := Kp.mk hb.size
  clear hO hb
  go_wp2_with (at_builtin; refine wpList_push tInts rfl _ _ rfl w.heap.size na m nc _ rfl HO.out 2 2 _ rfl rfl ?c1 (by decide) ?c2 (by decide) hsz.out ?c4)
  case c1 => simp [Value.oneCell']
  case c2 => omega
  case c4 =>
    intro sa sc w2 hown hbel
    have HB2 := Kp.mk (HB.out.trans hbel)
    have HN := Kp.mk (show SlI w2 sa sc (nums l 80 20 ++ [4, 7]) from by
      exact own_sl_len (l := nums l 80 20 ++ [4, 7]) (by rw [ints_append]; exact hown) (by rw [List.length_append, ← HM.out]; rfl))
    have HNL := Kp.mk (show (nums l 80 20 ++ [4, 7]).length = m + 2 by rw [List.length_append, ← HM.out]; rfl)
    clear hown hbel HO HM
    generalize nums l 80 20 ++ [4, 7] = N at *
    have em : (m : Int) + 2 - 1 = (m : Int) + 1 := by omega
    go_wp2_with fail
    refine (picked_any a1 ((m : Int) + 1) _ (by omega) (by omega) c1 c2).mono ?_
    rintro e w' ⟨rfl, rfl⟩
    rw [HI.out]
    go_wp2_with fail
    refine (picked_any a2 ((m : Int) + 1 - i) _ (by omega) (by omega) d1 d2).mono ?_
    rintro e w' ⟨rfl, rfl⟩
    rw [HQ.out]
    go_wp2_with fail
    refine (picked_any a3 ((k : Int) - i) _ (by omega) (by omega) e1 e2).mono ?_
    rintro e w' ⟨rfl, rfl⟩
    rw [HR.out]
    have CT1 := Kp.mk (fun w' (hb : Below w2.heap.size w2 w') => topped_any sa sc (m + 2) i s N w' (HN.out.below hb) HNL.out (by omega) (by omega) (by omega))
    have CT2 := Kp.mk (fun w' (hb : Below w2.heap.size w2 w') => topped_any sa sc (m + 2) (s + 1) k N w' (HN.out.below hb) HNL.out (by omega) (by omega) (by omega))
    have CT3 := Kp.mk (fun w' (hb : Below w2.heap.size w2 w') => topped_any sa sc (m + 2) i k N w' (HN.out.below hb) HNL.out (by omega) (by omega) (by omega))
    have hj := tix_join N i (s + 1 - i) (s + 1) (k + 1 - (s + 1)) (k + 1 - i) (by omega) (by omega) (by omega) (by omega) (by omega) (by omega)
    have b1 := tix_bd N i (s + 1 - i) (by omega)
    have b2 := tix_bd N (s + 1) (k + 1 - (s + 1)) (by omega)
    generalize tix N i (s + 1 - i) = x at *
    generalize tix N (s + 1) (k + 1 - (s + 1)) = y at *
    generalize tix N i (k + 1 - i) = z at *
    have hxy : x < y := by omega
    have hy : y < m + 2 := by omega
    have HJ := Kp.mk hj
    clear hj b1 b2
    go_wp2_with fail
    refine (CT1.out w2 (Below.refl _ _)).mono ?_
    rintro e w3 ⟨rfl, hb⟩
    have HB3 := Kp.mk hb
    clear hb CT1
    go_wp2_with fail
    refine (CT2.out _ HB3.out).mono ?_
    rintro e w4 ⟨rfl, hb⟩
    have HB4 := Kp.mk (below_step HB3.out hb)
    clear hb CT2 HB3
    go_wp2_with fail
    refine (CT3.out _ HB4.out).mono ?_
    rintro e w5 ⟨rfl, hb⟩
    have HB5 := Kp.mk (below_step HB4.out hb)
    have HN5 := Kp.mk (HN.out.below HB5.out)
    have HBW := Kp.mk (HB2.out.trans (HB5.out.mono (by have := HB2.out.size; omega)))
    clear hb CT3 HB4
    have hxl : x < N.length := by rw [HNL.out]; omega
    have hyl : y < N.length := by rw [HNL.out]; omega
    obtain ⟨b, off, rfl, cx⟩ := HN5.out.at x hxl
    obtain ⟨b', off', hb, cy⟩ := HN5.out.at y hyl
    simp only [Option.some.injEq, Addr.mk.injEq, and_true] at hb
    obtain ⟨rfl, rfl⟩ := hb
    rw [← at0_get hxl] at cx
    rw [← at0_get hyl] at cy
    have i1 : (x : Int) < (m : Int) + 2 := by omega
    have i2 : (y : Int) < (m : Int) + 2 := by omega
    have hj := HJ.out
    clear hxl hyl HJ
    generalize at0 N x = u at *
    generalize at0 N y = v at *
    have g1 : decide ((0 : Int) ≤ x) = true := decide_eq_true (by omega)
    have g2 : decide ((0 : Int) ≤ y) = true := decide_eq_true (by omega)
    have n1 : ((y : Int) == x) = false := by simp only [beq_eq_false_iff_ne]; omega
    have n2 : ((x : Int) == y) = false := by simp only [beq_eq_false_iff_ne]; omega
    have n3 : (y == x) = false := by simp only [beq_eq_false_iff_ne]; omega
    have n4 : (x == y) = false := by simp only [beq_eq_false_iff_ne]; omega
    by_cases hc : u < v
    · rw [if_pos hc] at hj
      have f1 := decide_eq_true hc
      clear hc
      subst hj
      go_wp2
      go_quiet (fail)
      go_wp2
      go_ret
      exact ⟨rfl, below_drewN HBW.out _⟩
    · rw [if_neg hc] at hj
      have f1 := decide_eq_false hc
      clear hc
      subst hj
      go_wp2
      go_quiet (fail)
      go_wp2
      go_ret
      exact ⟨rfl, below_drewN HBW.out _⟩

end Go.Proofs.Ytnieacfleabikaa

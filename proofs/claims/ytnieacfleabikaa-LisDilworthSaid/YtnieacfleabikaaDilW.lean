/- The walk of LisDilworth. -/
import Derived.Test.YtnieacfleabikaaDil
namespace Go.Proofs.Ytnieacfleabikaa
set_option linter.unusedVariables false
open Go.RowKit

theorem where_cell {w : World} {B e g n cap k : Nat} {W : List Nat} (h : w.ownsRow B e 1 (.slice (some ⟨g, 0, none⟩) n cap) n (ints (nts W))) (hl : W.length = n) (hk : k < n) :
    w.cell? ⟨g, k, none⟩ = some (.int .i64 ((W.getD k 0 : Nat) : Int)) := by
  rw [h.cellAt k (by omega), List.getElem?_eq_getElem (by rw [ints_length, nts_length]; omega), ints_get, nts_get, getD_at _ _ (by omega)]
theorem used_cell {w : World} {B e g n cap k : Nat} {U : List Bool} (h : w.ownsRow B e 1 (.slice (some ⟨g, 0, none⟩) n cap) n (bls U)) (hl : U.length = n) (hk : k < n) :
    w.cell? ⟨g, k, none⟩ = some (.bool (U.getD k false)) := by
  rw [h.cellAt k (by omega), List.getElem?_eq_getElem (by rw [bls_length]; omega), bls_get, getD_at _ _ (by omega)]
theorem nts_set (W : List Nat) (i x : Nat) : (nts W).set i (x : Int) = nts (W.set i x) := by simp [nts, List.map_set]

set_option maxRecDepth 100000 in
set_option maxHeartbeats 2000000 in
theorem walk_LisDilworth (a0 : Option Addr) (len0 cap0 : Nat) (z0 : List Int) (a1 : Int) (w : World) (w0 : IsRow .i64 w a0 len0 cap0 z0) (w1 : (Lit.int .i64 a1).wf = true) :
    Calls Try.prog 5 #[.slice a0 len0 cap0, .int .i64 a1] w fun e w' => e = .returned (.bool true) ∧ Below w.heap.size w w' := by
  obtain ⟨l, rfl, hl, wl, nl⟩ := row_sl w0
  obtain ⟨c1, c2⟩ := wf_bd w1
  unfold maxLen at nl
  have HL := Kp.mk hl
  have WL := Kp.mk wl
  obtain ⟨i0, hi, il⟩ := pick_nat a1 200 (by omega)
  obtain ⟨b0, hb0⟩ : ∃ b0 : Int, b0 = 1 + i0 := ⟨_, rfl⟩
  have hb01 : (1 : Int) + i0 = b0 := by omega
  have hb0p : 0 < b0 := by omega
  have hb0q : b0 ≤ 200 := by omega
  obtain ⟨m, hm⟩ : ∃ m, m = (nums l 100 b0).length := ⟨_, rfl⟩
  have hm100 : m ≤ 100 := by rw [hm, nums_length]; omega
  have HI := Kp.mk hi
  have HM := Kp.mk hm
  have HB0 := Kp.mk hb01
  clear w0 w1 hl wl hi hm hb0 hb01
  go_enter Try.func5, Try.ntmps5
  go_wp2_with fail
  refine (picked_any a1 200 _ (by omega) (by omega) c1 c2).mono ?_
  rintro e w' ⟨rfl, rfl⟩
  rw [HI.out]
  go_wp2_with fail
  rw [HB0.out]
  refine (numbers_any a0 cap0 100 b0 l w HL.out (by omega) (by omega) (by omega) (by omega) WL.out).mono ?_
  rintro e w1 ⟨na, nc, rfl, hO, hb⟩
  unfold OwnI at hO
  rw [← HM.out] at hO ⊢
  have HO := Kp.mk hO
  have HB := Kp.mk hb
  have hsz := Kp.mk hb.size
  clear hO hb
  go_wp2_with (at_builtin; refine wpList_push tInts rfl _ _ rfl w.heap.size na m nc _ rfl HO.out 1 1 _ rfl rfl ?c1 (by decide) ?c2 (by decide) hsz.out ?c4)
  case c1 => simp [Value.oneCell']
  case c2 => omega
  case c4 =>
    intro sa sc w2 hown hbel
    have HB2 := Kp.mk (HB.out.trans hbel)
    have HN := Kp.mk (show SlI w2 sa sc (nums l 100 b0 ++ [4]) from by
      exact own_sl_len (l := nums l 100 b0 ++ [4]) (by rw [ints_append]; exact hown) (by rw [List.length_append, ← HM.out]; rfl))
    have HNL := Kp.mk (show (nums l 100 b0 ++ [4]).length = m + 1 by rw [List.length_append, ← HM.out]; rfl)
    clear hown hbel HO HM
    generalize nums l 100 b0 ++ [4] = N at *
    go_wp2_with fail
    refine (rising_any sa sc (m + 1) N w2 HN.out HNL.out (by omega) (by omega)).mono ?_
    rintro e w3 ⟨ra, rc, r, fa, fc, rfl, HR, HRS, HF, hb3⟩
    have HB3 := Kp.mk (HB2.out.trans (hb3.mono (by have := HB2.out.size; omega)))
    have hr : r ≤ m + 1 := by rw [← HR.out]; exact pilesK_len _ _
    have HPI := Kp.mk (piles_inv N (m + 1))
    have hne : ((r : Int) != r) = false := by simp
    clear hb3
    go_wp2_with (at_make; refine wpList_mk1 tInts rfl rfl _ _ rfl w3.heap.size (m + 1) (by simp [go_sem]) (by simp [go_sem]) ?d1 (by decide) (Nat.le_refl _) ?d2)
    case d1 => omega
    case d2 =>
    intro wa wc w4 hown hb4
    obtain ⟨g, rfl, hg1, hg2⟩ := own_some hown (by omega)
    have HO := Kp.mk (show w4.ownsRow w3.heap.size 3 1 (.slice (some ⟨g, 0, none⟩) (m + 1) wc) (m + 1) (ints (nts (List.replicate (m + 1) 0))) from by
      simpa [ints, nts] using hown)
    have HWS := Kp.mk (WhI.start (pilesK N (m + 1)) (m + 1))
    clear hown
    go_wp2
    go_loopw [10] (fun i wr => ∃ (i' : Nat) (W : List Nat), i' ≤ r ∧ i = .int .i64 i' ∧ Kp (wr.ownsRow w3.heap.size 3 1 (.slice (some ⟨g, 0, none⟩) (m + 1) wc) (m + 1) (ints (nts W))) ∧ Below w3.heap.size w3 wr ∧ Kp (WhI (pilesK N (m + 1)) (m + 1) i' 0 W)) (fun i _ => r - (intOf i).toNat)
    case atStart => exact ⟨0, _, Nat.zero_le _, rfl, HO, hb4, HWS⟩
    case round =>
      clear HO hb4 HWS
      obtain ⟨i, W, hi, rfl, HW, hbr, HWI⟩ := hrel
      by_cases hlt : i < r
      · have hjl : i < (pilesK N (m + 1)).length := by rw [HR.out]; exact hlt
        obtain ⟨b, off, qa, qc, rfl, ci, si⟩ := HF.out.at i (by simpa using hjl)
        have e1 : (List.map nts (pilesK N (m + 1)))[i]'(by simpa using hjl) = nts ((pilesK N (m + 1)).getD i []) := by rw [getD_at _ _ hjl]; simp
        rw [e1, nts_length] at ci
        rw [e1] at si
        have HPM := Kp.mk (show (pilesK N (m + 1)).getD i [] ∈ pilesK N (m + 1) from by rw [getD_at _ _ hjl]; exact List.getElem_mem _)
        have hpl : ((pilesK N (m + 1)).getD i []).length ≤ m + 1 := by have := mem_len HPM.out; rw [HPI.out.sum] at this; exact this
        obtain ⟨p, hp⟩ : ∃ p, (pilesK N (m + 1)).getD i [] = p := ⟨_, rfl⟩
        obtain ⟨q, hq⟩ : ∃ q, p.length = q := ⟨_, rfl⟩
        rw [hp, hq] at ci
        rw [hp] at si hpl HPM
        rw [hq] at hpl
        have HCI := Kp.mk ci
        have HSI := Kp.mk si
        have HP := Kp.mk hp
        have HQ := Kp.mk hq
        clear ci si e1 hp hq hjl
        go_wp2
        go_loopw [11] (fun k wr => ∃ (k' : Nat) (W : List Nat), k' ≤ q ∧ k = .int .i64 k' ∧ Kp (wr.ownsRow w3.heap.size 3 1 (.slice (some ⟨g, 0, none⟩) (m + 1) wc) (m + 1) (ints (nts W))) ∧ Below w3.heap.size w3 wr ∧ Kp (WhI (pilesK N (m + 1)) (m + 1) i k' W)) (fun k _ => q - (intOf k).toNat)
        case atStart => exact ⟨0, W, Nat.zero_le _, rfl, HW, hbr, HWI⟩
        case round =>
          clear HW hbr HWI
          obtain ⟨k, W, hk, rfl, HW, hbr, HWI⟩ := hrel
          have ci := (hbr.cell (p := ⟨b, off + i, none⟩) (World.block_lt_of_cell? w3 _ HCI.out)).trans HCI.out
          by_cases hltk : k < q
          · obtain ⟨pb, po, rfl, ck⟩ := (HSI.out.below hbr).at k (by rw [nts_length, HQ.out]; exact hltk)
            rw [nts_get, ← getD_at p 0 (by rw [HQ.out]; exact hltk)] at ck
            have hx : p.getD k 0 < m + 1 := HPI.out.lt p HPM.out _ (by rw [getD_at _ _ (by rw [HQ.out]; exact hltk)]; exact List.getElem_mem _)
            have HST := Kp.mk (HWI.out.step (by rw [HR.out]; exact hlt) (by rw [HP.out, HQ.out]; exact hltk) (by rw [HP.out]; exact hx))
            rw [HP.out] at HST
            have cw := where_cell HW.out HWI.out.len hx
            have fw := HW.out.frozenAt (p.getD k 0)
            have hst := (HW.out.stored (p.getD k 0) (.int .i64 ((i + 1 : Nat) : Int))).1
            rw [ints_set, nts_set] at hst
            have HW2 := Kp.mk hst
            have hx1 : ((p.getD k 0 : Nat) : Int) < (m : Int) + 1 := by omega
            clear hst
            generalize p.getD k 0 = x at *
            generalize W.getD x 0 = y at *
            go_wp2
            go_roundw
            case rel => exact ⟨k + 1, _, by omega, by go_num, HW2, hbr.setCell (p := ⟨g, x, none⟩) hg1 _, HST⟩
            case measure => simp [intOf]; omega
          · obtain rfl : k = q := by omega
            have HNX := Kp.mk (WhI.next (show WhI (pilesK N (m + 1)) (m + 1) i ((pilesK N (m + 1)).getD i []).length W from by rw [HP.out, HQ.out]; exact HWI.out))
            go_wp2
            go_roundw
            case rel => exact ⟨i + 1, W, by omega, by go_num, HW, hbr, HNX⟩
            case measure => simp [intOf]; omega
      · obtain rfl : i = r := by omega
        have hrl : (riseOf N).length = i := by rw [riseOf_length, HNL.out]; exact HR.out
        have HRL := Kp.mk hrl
        have HRI := Kp.mk (riseOf_rises N)
        rw [← HR.out] at HWI
        go_wp2_with (at_make; refine wpList_mk1 tBools rfl rfl _ _ rfl wr.heap.size (i + 1) (by simp [go_sem]) (by simp [go_sem]) ?d1 (by decide) (Nat.le_refl _) ?d2)
        case d1 => omega
        case d2 =>
        intro ua uc w5 hown5 hb5
        obtain ⟨gu, rfl, hgu1, hgu2⟩ := own_some hown5 (by omega)
        have HO5 := Kp.mk (show w5.ownsRow wr.heap.size 4 1 (.slice (some ⟨gu, 0, none⟩) (i + 1) uc) (i + 1) (bls (List.replicate (i + 1) false)) from by
          simpa [bls] using hown5)
        have HUS := Kp.mk (UsI.start W (riseOf N) i)
        clear hown5
        go_wp2
        go_loopw [13] (fun j wq => ∃ (j' : Nat) (U : List Bool), j' ≤ i ∧ j = .int .i64 j' ∧ Kp (wq.ownsRow wr.heap.size 4 1 (.slice (some ⟨gu, 0, none⟩) (i + 1) uc) (i + 1) (bls U)) ∧ Below wr.heap.size wr wq ∧ Kp (UsI W (riseOf N) i j' U)) (fun j _ => i - (intOf j).toNat)
        case atStart => exact ⟨0, _, Nat.zero_le _, rfl, HO5, hb5, HUS⟩
        case round =>
          clear HO5 hb5 HUS
          obtain ⟨j, U, hj, rfl, HU, hbq, HUI⟩ := hrel
          by_cases hltj : j < i
          · obtain ⟨pb, po, rfl, cr⟩ := ((HRS.out.below hbr).below hbq).at j (by rw [nts_length, HRL.out]; exact hltj)
            rw [nts_get, ← getD_at (riseOf N) 0 (by rw [HRL.out]; exact hltj)] at cr
            have hx : (riseOf N).getD j 0 < m + 1 := by rw [getD_at _ _ (by rw [HRL.out]; exact hltj), ← HNL.out]; exact HRI.out.lt _ (List.getElem_mem _)
            obtain ⟨n1, n2, n3⟩ := dil_new HPI.out HWI.out (by rw [HR.out]; exact HUI.out) HRI.out (by rw [HRL.out]; exact hltj) HNL.out
            rw [HR.out] at n2
            have HST := Kp.mk (HUI.out.step n2)
            have hxw := hx
            have cw := where_cell (own_below HW.out hbq) HWI.out.len hx
            have cu := used_cell HU.out HUI.out.len (show W.getD ((riseOf N).getD j 0) 0 < i + 1 by omega)
            rw [n3] at cu
            have fu := HU.out.frozenAt (W.getD ((riseOf N).getD j 0) 0)
            have hst := (HU.out.stored (W.getD ((riseOf N).getD j 0) 0) (.bool true)).1
            rw [bls_set] at hst
            have HU2 := Kp.mk hst
            have hx1 : (((riseOf N).getD j 0 : Nat) : Int) < (m : Int) + 1 := by omega
            have hq1 : ((W.getD ((riseOf N).getD j 0) 0 : Nat) : Int) < (i : Int) + 1 := by omega
            have hz : (((W.getD ((riseOf N).getD j 0) 0 : Nat) : Int) == 0) = false := by simp only [beq_eq_false_iff_ne]; omega
            clear hst n3
            generalize W.getD ((riseOf N).getD j 0) 0 = y at *
            generalize (riseOf N).getD j 0 = x at *
            go_wp2
            go_roundw
            case rel => exact ⟨j + 1, _, by omega, by go_num, HU2, hbq.setCell (p := ⟨gu, y, none⟩) hgu1 _, HST⟩
            case measure => simp [intOf]; omega
          · obtain rfl : j = i := by omega
            go_wp2
            go_ret
            exact ⟨rfl, HB3.out.trans ((below_step hbr hbq).mono (by have := HB3.out.size; omega))⟩

end Go.Proofs.Ytnieacfleabikaa

/- The walk of SegTold. -/
import Derived.Test.YtnieacfleabikaaSegZ
import Derived.Test.YtnieacfleabikaaNum
namespace Go.Proofs.Ytnieacfleabikaa
set_option linter.unusedVariables false
open Go.RowKit

theorem sub_seg (kd lo hi : Nat) (D : List Int) (h : hi < D.length) (hl : lo ≤ hi) : sub ⟨kd, lo, hi, 0⟩ 0 D = segL D lo hi := by
  have h1 : D = D.take lo ++ segL D lo hi ++ D.drop (hi + 1) := by
    unfold segL
    have e1 : D.drop (hi + 1) = (D.drop lo).drop (hi + 1 - lo) := by rw [List.drop_drop, show lo + (hi + 1 - lo) = hi + 1 by omega]
    rw [e1, List.append_assoc, List.take_append_drop, List.take_append_drop]
  have hl1 : (D.take lo).length = lo := by rw [List.length_take]; omega
  have hl2 := segL_length D lo hi h
  generalize segL D lo hi = S at *
  conv => lhs; rw [h1]
  rw [sub_append, sub_append, (upd_out ⟨kd, lo, hi, 0⟩ (D.take lo) 0 (by dsimp only; omega)).2, (upd_out ⟨kd, lo, hi, 0⟩ (D.drop (hi + 1)) _ (by dsimp only; rw [List.length_append, hl1, hl2]; omega)).2, hl1, Nat.zero_add, (upd_all ⟨kd, lo, hi, 0⟩ S lo (by dsimp only; omega)).2]
  simp

set_option maxRecDepth 100000 in
set_option maxHeartbeats 2000000 in
theorem walk_SegTold (a0 : Option Addr) (len0 cap0 : Nat) (z0 : List Int) (a1 : Option Addr) (len1 cap1 : Nat) (z1 : List Int) (a2 : Int) (a3 : Int) (w : World) (w0 : IsRow .i64 w a0 len0 cap0 z0) (w1 : IsFlat 4 w a1 len1 cap1 z1) (w2 : (Lit.int .i64 a2).wf = true) (w3 : (Lit.int .i64 a3).wf = true) :
    Calls Try.prog 11 #[.slice a0 len0 cap0, .slice a1 len1 cap1, .int .i64 a2, .int .i64 a3] w fun e w' => e = .returned (.bool true) ∧ Below w.heap.size w w' := by
  obtain ⟨l, rfl, hl, wl, nl⟩ := row_sl w0
  obtain ⟨L, hL, wL, nL⟩ := works_in w1
  obtain ⟨c1, c2⟩ := wf_bd w2
  obtain ⟨c3, c4⟩ := wf_bd w3
  unfold maxLen at nl nL
  have HL := Kp.mk hl
  have WL := Kp.mk wl
  have HWK := Kp.mk hL
  have WWK := Kp.mk wL
  obtain ⟨m, hm⟩ : ∃ m, m = (sgn l 60 500).length := ⟨_, rfl⟩
  have hm60 : m ≤ 60 := by rw [hm, sgn_length]; omega
  obtain ⟨lo, hlo, il⟩ := pick_nat a2 ((m : Int) + 1) (by omega)
  obtain ⟨q, hq, ql⟩ := pick_nat a3 ((m : Int) + 1 - lo) (by omega)
  obtain ⟨hi, hhi⟩ : ∃ hi, hi = lo + q := ⟨_, rfl⟩
  have hiz : (lo : Int) + q = hi := by omega
  have hlh : lo ≤ hi := by omega
  have hin : hi < m + 1 := by omega
  have HLO := Kp.mk hlo
  have HQ := Kp.mk hq
  have HIZ := Kp.mk hiz
  have HM := Kp.mk hm
  have HBD := Kp.mk (sgn_bd l 60 500 (by omega))
  clear w0 w1 w2 w3 hl wl hL wL hlo hq hhi hiz hm
  go_enter Try.func11, Try.ntmps11
  go_wp2_with fail
  refine (signed_any a0 cap0 60 500 l w HL.out (by omega) (by omega) (by omega) (by omega) WL.out).mono ?_
  rintro e w1 ⟨na, nc, rfl, hO, hb⟩
  unfold OwnI at hO
  rw [← HM.out] at hO ⊢
  have HO := Kp.mk hO
  have HB := Kp.mk hb
  have hsz := Kp.mk hb.size
  clear hO hb
  go_wp2_with (at_builtin; refine wpList_push tInts rfl _ _ rfl w.heap.size na m nc _ rfl HO.out 1 1 _ rfl rfl ?d1 (by decide) ?d2 (by decide) hsz.out ?d4)
  case d1 => simp [Value.oneCell']
  case d2 => omega
  case d4 =>
    intro sa sc w2 hown hbel
    have HB2 := Kp.mk (HB.out.trans hbel)
    have HNL := Kp.mk (show (sgn l 60 500 ++ [3]).length = m + 1 by rw [List.length_append, ← HM.out]; rfl)
    have HN := Kp.mk (show SlI w2 sa sc (sgn l 60 500 ++ [3]) from own_sl_len (by rw [ints_append]; exact hown) HNL.out)
    have HBN := Kp.mk (show ∀ x ∈ sgn l 60 500 ++ [3], x.natAbs ≤ 1048576 from fun x hx => by
      rcases List.mem_append.1 hx with hx | hx
      · have := HBD.out x hx; omega
      · rw [List.mem_singleton.1 hx]; omega)
    clear hown hbel HO HM HBD hsz
    generalize sgn l 60 500 ++ [3] = N at *
    go_wp2_with fail
    refine (ops_any a1 cap1 len1 60 (m + 1) L w2 (HWK.out.below (HB2.out.mono (Nat.le_refl _))) (by omega) (by omega) (by omega) (by omega) WWK.out).mono ?_
    rintro e w3 ⟨oa, oc, r, rfl, HRL, HRO, hb3⟩
    have HOK := Kp.mk (opsOf_ok L 60 (m + 1) (by omega))
    have hr60 : r ≤ 60 := by rw [← HRL.out, opsOf_length]; omega
    have HB3 := Kp.mk (HB2.out.trans (hb3.mono HB2.out.size))
    have HN3 := Kp.mk (HN.out.below hb3)
    have HOS := Kp.mk (show SlF opL 4 w3 oa r oc (opsOf L 60 (m + 1)) from own_slc HRO.out)
    clear hb3 HRO
    generalize opsOf L 60 (m + 1) = O at *
    go_wp2_with fail
    refine (behind_any sa oa sc oc (m + 1) r N O w3 HN3.out HNL.out HOS.out (by omega) (by omega) (by omega) HBN.out HOK.out).mono ?_
    rintro e w4 ⟨ea, ec, xa, xc, rfl, HE, _, hb4⟩
    have HB4 := Kp.mk (HB3.out.trans (hb4.mono HB3.out.size))
    have HN4 := Kp.mk (HN3.out.below hb4)
    have HO4 := Kp.mk (HOS.out.below hb4)
    clear hb4
    go_wp2_with fail
    refine (picked_any a2 ((m : Int) + 1) _ (by omega) (by omega) c1 c2).mono ?_
    rintro e w' ⟨rfl, rfl⟩
    rw [HLO.out]
    go_wp2_with fail
    refine (picked_any a3 ((m : Int) + 1 - lo) _ (by omega) (by omega) c3 c4).mono ?_
    rintro e w' ⟨rfl, rfl⟩
    rw [HQ.out]
    have hiz := HIZ.out
    go_wp2_with (at_builtin; refine wpList_cat tOps rfl _ _ rfl w4.heap.size none 0 0 [] rfl (World.ownsRow_nil _ _ _ _) _ _ _ _ rfl HO4.out (flat_one opL_one O) ?e1 (by decide) (Nat.le_refl _) ?e2)
    case e1 => omega
    case e2 =>
      intro pa pc w5 hown5 hb5
      have HP := Kp.mk (show w5.ownsRow w4.heap.size 61 4 (.slice pa r pc) r (flat opL O) from by simpa using hown5)
      have hs5 : w4.heap.size ≤ w5.heap.size := hb5.size
      have HB5 := Kp.mk hb5
      clear hown5 hb5
      go_wp2_with (at_builtin; refine wpList_push tOps rfl _ _ rfl w4.heap.size pa r pc _ rfl HP.out 2 2 _ rfl rfl ?f1 (by decide) ?f2 (by decide) hs5 ?f4)
      case f1 => simp [Value.oneCell']
      case f2 => omega
      case f4 =>
        intro qa qc w6 hown6 hb6
        have HO2 := Kp.mk (show SlF opL 4 w6 qa (r + 2) qc (O ++ [⟨4, lo, hi, 0⟩, ⟨3, lo, hi, 0⟩]) from by
          unfold SlF
          rw [flat_append]
          exact own_slc hown6)
        have HK2 := Kp.mk (show ∀ o ∈ O ++ [⟨4, lo, hi, 0⟩, ⟨3, lo, hi, 0⟩], o.Ok (m + 1) from fun o ho => by
          rcases List.mem_append.1 ho with ho | ho
          · exact HOK.out o ho
          · simp only [List.mem_cons, List.not_mem_nil, or_false] at ho
            rcases ho with rfl | rfl <;> exact ⟨by dsimp only; omega, by dsimp only; omega, hlh, hin, by dsimp only; omega, by dsimp only; omega⟩)
        have HB6 := Kp.mk (HB5.out.trans hb6)
        clear hown6 hb6
        go_wp2_with fail
        refine (behind_any sa qa sc qc (m + 1) (r + 2) N _ w6 (HN4.out.below HB6.out) HNL.out HO2.out (by omega) (by omega) (by omega) HBN.out HK2.out).mono ?_
        rintro e w7 ⟨ga, gc, ya, yc, rfl, _, HY, hb7⟩
        have HB7 := Kp.mk (below_step HB6.out hb7)
        have HE7 := Kp.mk (HE.out.below HB7.out)
        have HB70 := Kp.mk (HB4.out.trans (HB7.out.mono HB4.out.size))
        -- what the two last replies tell
        have hD := runD_length N O r
        rw [HNL.out] at hD
        have hDB := runD_bd HBN.out HOK.out r (by rw [HRL.out]; exact Nat.le_refl _)
        have hsame : ∀ k, k ≤ r → runD N (O ++ [⟨4, lo, hi, 0⟩, ⟨3, lo, hi, 0⟩]) k = runD N O k := fun k hk => by
          induction k with
          | zero => unfold runD; rfl
          | succ k ih =>
            unfold runD
            rw [ih (by omega), getD_at _ _ (by simp [HRL.out]; omega), getD_at _ _ (by rw [HRL.out]; omega), List.getElem_append_left (by rw [HRL.out]; omega)]
        have g0 : (O ++ [⟨4, lo, hi, 0⟩, ⟨3, lo, hi, 0⟩] : List SOp).getD r op0 = ⟨4, lo, hi, 0⟩ := by
          rw [getD_at _ _ (by simp [HRL.out]), List.getElem_append_right (by rw [HRL.out]; exact Nat.le_refl _)]; simp [HRL.out]
        have g1 : (O ++ [⟨4, lo, hi, 0⟩, ⟨3, lo, hi, 0⟩] : List SOp).getD (r + 1) op0 = ⟨3, lo, hi, 0⟩ := by
          rw [getD_at _ _ (by simp [HRL.out]), List.getElem_append_right (by rw [HRL.out]; omega)]; simp [HRL.out]
        have r1 : runD N (O ++ [⟨4, lo, hi, 0⟩, ⟨3, lo, hi, 0⟩]) (r + 1) = runD N O r := by
          conv => lhs; unfold runD
          rw [g0, hsame r (Nat.le_refl _), sub_upd_ask _ ⟨show 4 ≠ 1 by decide, show 4 ≠ 2 by decide⟩]
        have r2 : runD N (O ++ [⟨4, lo, hi, 0⟩, ⟨3, lo, hi, 0⟩]) (r + 1 + 1) = runD N O r := by
          conv => lhs; unfold runD
          rw [g1, r1, sub_upd_ask _ ⟨show 3 ≠ 1 by decide, show 3 ≠ 2 by decide⟩]
        have p0 := repsK_get N (O ++ [⟨4, lo, hi, 0⟩, ⟨3, lo, hi, 0⟩]) (r + 2) r (by omega)
        have p1 := repsK_get N (O ++ [⟨4, lo, hi, 0⟩, ⟨3, lo, hi, 0⟩]) (r + 2) (r + 1) (by omega)
        rw [g0, r1] at p0
        rw [g1, r2] at p1
        have s4 : replyOf ⟨4, lo, hi, 0⟩ (runD N O r) = (segL (runD N O r) lo hi).sum := by
          unfold replyOf; rw [if_neg (show ¬ (4 = 3) by decide), if_pos rfl, sub_seg _ _ _ _ (by rw [hD]; exact hin) hlh]
        have s3 : replyOf ⟨3, lo, hi, 0⟩ (runD N O r) = minL (segL (runD N O r) lo hi) := by
          unfold replyOf; rw [if_pos rfl, sub_seg _ _ _ _ (by rw [hD]; exact hin) hlh]
        rw [s4] at p0
        rw [s3] at p1
        have hl2 := repsK_length N (O ++ [⟨4, lo, hi, 0⟩, ⟨3, lo, hi, 0⟩]) (r + 2)
        obtain ⟨b, off, rfl, hbw, co0⟩ := HY.out.at repL_len (by omega) r (by rw [hl2]; omega)
        obtain ⟨b', off', hbe, _, co1⟩ := HY.out.at repL_len (by omega) (r + 1) (by rw [hl2]; omega)
        simp only [Option.some.injEq, Addr.mk.injEq, and_true] at hbe
        obtain ⟨rfl, rfl⟩ := hbe
        rw [← getD_at _ (0, 0) (by rw [hl2]; omega), p0] at co0
        rw [← getD_at _ (0, 0) (by rw [hl2]; omega), p1] at co1
        have y0 : w7.cell? ⟨b, off + r * 2, none⟩ = some (.int .i64 0) := co0 0 (by omega)
        have y1 : w7.cell? ⟨b, off + r * 2 + 1, none⟩ = some (.int .i64 (segL (runD N O r) lo hi).sum) := co0 1 (by omega)
        have y2 : w7.cell? ⟨b, off + (r + 1) * 2, none⟩ = some (.int .i64 0) := co1 0 (by omega)
        have y3 : w7.cell? ⟨b, off + (r + 1) * 2 + 1, none⟩ = some (.int .i64 (minL (segL (runD N O r) lo hi))) := co1 1 (by omega)
        clear co0 co1 hl2 s3 s4 p0 p1 r1 r2 g0 g1 hsame hbw HY HP HO2 HK2
        generalize runD N O r = D at *
        have HD := Kp.mk hD
        have HDB := Kp.mk hDB
        clear hD hDB
        obtain ⟨eb, eo, rfl, ce⟩ := HE7.out.at lo (by rw [HD.out]; omega)
        rw [← getD_at D 0 (by rw [HD.out]; omega)] at ce
        have hloz : (lo : Int) < (m : Int) + 1 := by omega
        go_wp2
        go_loop [19, 20, 21] (fun s t i => ∃ k : Nat, lo ≤ k ∧ k ≤ hi + 1 ∧ s = .int .i64 ((D.drop lo).take (k - lo)).sum ∧ t = .int .i64 (minL (D.getD lo 0 :: (D.drop lo).take (k - lo))) ∧ i = .int .i64 k) (fun _ _ i => hi + 1 - (intOf i).toNat)
        case atStart => exact ⟨lo, Nat.le_refl _, by omega, by simp, by simp [minL], rfl⟩
        case round =>
          obtain ⟨k, hk1, hk2, rfl, rfl, rfl⟩ := hrel
          by_cases hlt : k ≤ hi
          · obtain ⟨eb', eo', hee, ck⟩ := HE7.out.at k (by rw [HD.out]; omega)
            simp only [Option.some.injEq, Addr.mk.injEq, and_true] at hee
            obtain ⟨rfl, rfl⟩ := hee
            rw [← getD_at D 0 (by rw [HD.out]; omega)] at ck
            have hts : (D.drop lo).take (k + 1 - lo) = (D.drop lo).take (k - lo) ++ [D.getD k 0] := by
              rw [show k + 1 - lo = (k - lo) + 1 by omega, List.take_succ_eq_append_getElem (by rw [List.length_drop, HD.out]; omega)]
              congr 2
              rw [List.getElem_drop, getD_at _ _ (by rw [HD.out]; omega)]
              congr 1; omega
            have hsb := sum_bd (D := (D.drop lo).take (k - lo)) (fun x hx => HDB.out x (List.mem_of_mem_drop (List.mem_of_mem_take hx)))
            have hlen : ((D.drop lo).take (k - lo)).length ≤ 61 := by rw [List.length_take]; omega
            have hsb2 := Nat.mul_le_mul (show 1048576 * (r + 1) ≤ 63963136 by omega) hlen
            have hkb := HDB.out (D.getD k 0) (by rw [getD_at _ _ (by rw [HD.out]; omega)]; exact List.getElem_mem _)
            have HSS := Kp.mk (show ((D.drop lo).take (k + 1 - lo)).sum = ((D.drop lo).take (k - lo)).sum + D.getD k 0 from by rw [hts]; simp)
            have HMM := Kp.mk (show minL (D.getD lo 0 :: (D.drop lo).take (k + 1 - lo)) = min (minL (D.getD lo 0 :: (D.drop lo).take (k - lo))) (D.getD k 0) from by
              rw [hts, ← List.cons_append, minL_append (by simp) (by simp)]; rfl)
            have hsc : -10000000000 ≤ ((D.drop lo).take (k - lo)).sum ∧ ((D.drop lo).take (k - lo)).sum ≤ 10000000000 := by omega
            have hkc : -100000000 ≤ D.getD k 0 ∧ D.getD k 0 ≤ 100000000 := by omega
            obtain ⟨t1, t2⟩ := hsc
            obtain ⟨t3, t4⟩ := hkc
            have hki : (k : Int) < (m : Int) + 1 := by omega
            have hkh : (k : Int) ≤ hi := by omega
            clear hts hsb hlen hsb2 hkb
            generalize ((D.drop lo).take (k - lo)).sum = s at *
            generalize minL (D.getD lo 0 :: (D.drop lo).take (k - lo)) = t at *
            generalize D.getD k 0 = x at *
            go_wp2
            all_goals
              go_round
              case rel => exact ⟨k + 1, by omega, by omega, by rw [HSS.out], by rw [HMM.out]; congr 1; omega, by go_num⟩
              case measure => simp [intOf]; omega
          · obtain rfl : k = hi + 1 := by omega
            have HSEG := Kp.mk (show (D.drop lo).take (hi + 1 - lo) = segL D lo hi from rfl)
            have hne : segL D lo hi ≠ [] := by
              intro e
              have := segL_length D lo hi (by rw [HD.out]; exact hin)
              rw [e] at this; simp at this; omega
            have HMN := Kp.mk (show minL (D.getD lo 0 :: segL D lo hi) = minL (segL D lo hi) from by
              have e : segL D lo hi = D.getD lo 0 :: (segL D lo hi).drop 1 := by
                unfold segL
                rw [List.drop_eq_getElem_cons (show lo < D.length by rw [HD.out]; omega), show hi + 1 - lo = (hi - lo) + 1 by omega, List.take_succ_cons, getD_at _ _ (by rw [HD.out]; omega)]
                simp
              by_cases hd : (segL D lo hi).drop 1 = []
              · rw [hd] at e; rw [e]; simp [minL]
              · rw [minL_cons _ hne]
                rw [e, minL_cons _ hd]; omega)
            rw [HSEG.out, HMN.out]
            have hgt : ¬ (((hi + 1 : Nat) : Int) ≤ hi) := by omega
            have rt : ((r : Int)).toNat = r := by omega
            have rt1 : ((r : Int) + 1).toNat = r + 1 := by omega
            generalize (segL D lo hi).sum = s at *
            generalize minL (segL D lo hi) = t at *
            go_wp2
            go_ret
            exact ⟨rfl, HB70.out⟩

end Go.Proofs.Ytnieacfleabikaa

/- The walk of LisTurned. -/
import Derived.Test.YtnieacfleabikaaRsng
import Derived.Test.YtnieacfleabikaaNum
import Derived.Test.YtnieacfleabikaaTrn
namespace Go.Proofs.Ytnieacfleabikaa
set_option linter.unusedVariables false
open Go.RowKit

set_option maxRecDepth 100000 in
set_option maxHeartbeats 2000000 in
theorem walk_LisTurned (a0 : Option Addr) (len0 cap0 : Nat) (z0 : List Int) (a1 : Int) (w : World) (w0 : IsRow .i64 w a0 len0 cap0 z0) (w1 : (Lit.int .i64 a1).wf = true) :
    Calls Try.prog 7 #[.slice a0 len0 cap0, .int .i64 a1] w fun e w' => e = .returned (.bool true) ∧ Below w.heap.size w w' := by
  obtain ⟨l, rfl, hl, wl, nl⟩ := row_sl w0
  obtain ⟨c1, c2⟩ := wf_bd w1
  unfold maxLen at nl
  have HL := Kp.mk hl
  have WL := Kp.mk wl
  obtain ⟨i0, hi, il⟩ := pick_nat a1 60 (by omega)
  obtain ⟨m, hm⟩ : ∃ m, m = (nums l 80 60).length := ⟨_, rfl⟩
  have hm100 : m ≤ 80 := by rw [hm, nums_length]; omega
  have HI := Kp.mk hi
  have HM := Kp.mk hm
  have HBD := Kp.mk (nums_bd l 80 60 (by omega))
  clear w0 w1 hl wl hi hm
  go_enter Try.func7, Try.ntmps7
  go_wp2_with fail
  refine (numbers_any a0 cap0 80 60 l w HL.out (by omega) (by omega) (by omega) (by omega) WL.out).mono ?_
  rintro e w1 ⟨na, nc, rfl, hO, hb⟩
  unfold OwnI at hO
  rw [← HM.out] at hO ⊢
  have HO := Kp.mk hO
  have HB := Kp.mk hb
  have hsz := Kp.mk hb.size
  clear hO hb
  go_wp2_with (at_builtin; refine wpList_push tInts rfl _ _ rfl w.heap.size na m nc _ rfl HO.out 1 1 _ rfl rfl ?c1 (by decide) ?c2 (by decide) hsz.out ?c4)
  case c1 => simp [Value.oneCell']
  case c2 => omega
  case c4 =>
    intro sa sc w2 hown hbel
    have HB2 := Kp.mk (HB.out.trans hbel)
    have HNL := Kp.mk (show (nums l 80 60 ++ [4]).length = m + 1 by rw [List.length_append, ← HM.out]; rfl)
    have HN := Kp.mk (show w2.ownsRow w.heap.size 3 1 (.slice sa (m + 1) sc) (m + 1) (ints (nums l 80 60 ++ [4])) from by rw [ints_append]; exact hown)
    have HBN := Kp.mk (show ∀ x ∈ nums l 80 60 ++ [4], 0 ≤ x ∧ x < 60 from fun x hx => by
      rcases List.mem_append.1 hx with hx | hx
      · exact HBD.out x hx
      · rw [List.mem_singleton.1 hx]; omega)
    clear hown hbel HO HM HBD
    generalize nums l 80 60 ++ [4] = N at *
    have HSL := Kp.mk (own_sl_len HN.out HNL.out)
    go_wp2
    go_loopw [6, 7] (fun v i wr => ∃ (k : Nat) (oa : Option Addr) (oc : Nat), k ≤ m + 1 ∧ i = .int .i64 ((m : Int) - k) ∧ v = .slice oa k oc ∧ Kp (wr.ownsRow w2.heap.size 3 1 (.slice oa k oc) k (ints ((trn 100 N).take k))) ∧ Kp (Below w2.heap.size w2 wr)) (fun _ i _ => (intOf i + 1).toNat)
    case atStart => exact ⟨0, none, 0, Nat.zero_le _, by simp, rfl, ⟨World.ownsRow_nil _ _ _ _⟩, ⟨Below.refl _ _⟩⟩
    case round =>
      obtain ⟨k, oa, oc, hk, rfl, rfl, HO, HBR⟩ := hrel
      by_cases hlt : k < m + 1
      · obtain ⟨q, hq⟩ : ∃ q : Nat, m - k = q := ⟨_, rfl⟩
        have hqz : (m : Int) - k = q := by omega
        rw [hqz]
        have hqm : q < m + 1 := by omega
        have HQ := Kp.mk hqz
        obtain ⟨b, off, rfl, ci⟩ := (HSL.out.below HBR.out).at q (by rw [HNL.out]; exact hqm)
        have hbd := HBN.out (N[q]'(by rw [HNL.out]; exact hqm)) (List.getElem_mem _)
        have HTS := Kp.mk (trn_succ 100 N k (by rw [HNL.out]; exact hlt))
        rw [HNL.out, show m + 1 - 1 - k = q by omega] at HTS
        rw [← at0_get (by rw [HNL.out]; exact hqm)] at ci hbd
        have hqi : (q : Int) < (m : Int) + 1 := by omega
        have hBw : w2.heap.size ≤ wr.heap.size := HBR.out.size
        clear hq hqz
        generalize at0 N q = x at *
        go_wp2_with (at_builtin; refine wpList_push tInts rfl _ _ rfl w2.heap.size oa k oc _ rfl HO.out 1 1 _ rfl rfl ?d1 (by decide) ?d2 (by decide) hBw ?d4)
        case d1 => simp [Value.oneCell']
        case d2 => omega
        case d4 =>
          intro oa' oc' w' hown' hbel'
          have HO' := Kp.mk hown'
          have HB' := Kp.mk (HBR.out.trans hbel')
          clear hown' hbel'
          go_wp2
          go_roundw
          case rel => exact ⟨k + 1, oa', oc', by omega, by rw [show (m : Int) - ((k + 1 : Nat) : Int) = q - 1 by have := HQ.out; omega], rfl, ⟨by rw [HTS.out, ints_append]; exact HO'.out⟩, HB'⟩
          case measure => simp [intOf]
      · obtain rfl : k = m + 1 := by omega
        have HTL := Kp.mk (show (trn 100 N).length = m + 1 by rw [trn_length]; exact HNL.out)
        have HOT := Kp.mk (show SlI wr oa oc (trn 100 N) from own_sl_len (by have := HO.out; rwa [List.take_of_length_le (by rw [HTL.out]; exact Nat.le_refl _)] at this) HTL.out)
        have hge : ¬ (0 ≤ (m : Int) - ((m + 1 : Nat) : Int)) := by omega
        have e1 := Kp.mk (trn_lis 100 N)
        unfold lisL at e1
        rw [HTL.out, HNL.out] at e1
        go_wp2_with fail
        refine (rising_any sa sc (m + 1) N wr (HSL.out.below HBR.out) HNL.out (by omega) (by omega)).mono ?_
        rintro e w3 ⟨ra, rc, r, fa, fc, rfl, HR, _, _, hb3⟩
        have HB3 := Kp.mk hb3
        clear hb3
        go_wp2_with fail
        refine (rising_any oa oc (m + 1) (trn 100 N) w3 (HOT.out.below HB3.out) HTL.out (by omega) (by omega)).mono ?_
        rintro e w4 ⟨rb, rd, r', fb, fd, rfl, HR', _, _, hb4⟩
        obtain rfl : r' = r := by rw [← HR'.out, ← HR.out, e1.out]
        have HB4 := Kp.mk (below_step HBR.out (below_step HB3.out hb4))
        have HN4 := Kp.mk (own_below HN.out HB4.out)
        have hs4 : w.heap.size ≤ w4.heap.size := Nat.le_trans HB2.out.size HB4.out.size
        clear hb4
        go_wp2_with fail
        refine (picked_any a1 60 _ (by omega) (by omega) c1 c2).mono ?_
        rintro e w' ⟨rfl, rfl⟩
        rw [HI.out]
        go_wp2_with (at_builtin; refine wpList_push tInts rfl _ _ rfl w.heap.size sa (m + 1) sc _ rfl HN4.out 1 1 _ rfl rfl ?d1 (by decide) ?d2 (by decide) hs4 ?d4)
        case d1 => simp [Value.oneCell']
        case d2 => omega
        case d4 =>
          intro xa xc w5 hown5 hb5
          have HXL := Kp.mk (show (N ++ [(i0 : Int)]).length = m + 1 + 1 by rw [List.length_append, HNL.out]; rfl)
          have HX := Kp.mk (show SlI w5 xa xc (N ++ [(i0 : Int)]) from own_sl_len (by rw [ints_append]; exact hown5) HXL.out)
          have e2 := more_lis N (i0 : Int)
          unfold lisL at e2
          rw [HXL.out, HNL.out, HR.out] at e2
          have HB5 := Kp.mk ((HB2.out.trans (HB4.out.mono HB2.out.size)).trans hb5)
          obtain ⟨e3, e4⟩ := e2
          clear hown5 hb5
          go_wp2_with fail
          refine (rising_any xa xc (m + 1 + 1) (N ++ [(i0 : Int)]) w5 HX.out HXL.out (by omega) (by omega)).mono ?_
          rintro e w6 ⟨rx, rcx, s, fx, fxc, rfl, HRX, _, _, hb6⟩
          rw [HRX.out] at e3 e4
          have hrs : (r' : Int) ≤ s := by omega
          have hsr : (s : Int) ≤ (r' : Int) + 1 := by omega
          have hr82 : r' ≤ 81 := by rw [← HR.out]; exact Nat.le_trans (pilesK_len _ _) (by omega)
          have HB6 := Kp.mk (HB5.out.trans (hb6.mono (by have := HB5.out.size; omega)))
          clear hb6
          go_wp2
          go_ret
          exact ⟨rfl, HB6.out⟩

end Go.Proofs.Ytnieacfleabikaa

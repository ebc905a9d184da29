/- Merging in place: one element behind a row. -/
import Derived.Test.YtlmdlholmlbcbaaSmM
namespace Go.Proofs.Ytlmdlholmlbcbaa
set_option linter.unusedVariables false
open Go.RowKit

set_option maxRecDepth 100000 in
set_option maxHeartbeats 8000000 in
/-- One element behind a row. -/
theorem merge_last (f : FuncId) (cb : Array Value) (eg : ∀ args w, (callFunc f args).run Try.prog w = .ok (.enter f args) w) (key : Nat → Int) (B g c n mm : Nat) (w0 : World) (hc : CmpK f cb key g mm w0) (hn : n ≤ 1000000)
    (P L S : List Nat) (y a m b : Nat) (w : World) (h : Rw B g c n mm w0 w (P ++ L ++ [y] ++ S)) (ha : P.length = a) (hm : a + L.length = m) (hb : m + 1 = b) (hL : Up key L) (hL1 : L.length ≠ 1) :
    Calls Try.prog 170 #[.slice (some ⟨g, 0, none⟩) n c, .int .i64 a, .int .i64 m, .int .i64 b, .func (.func f) #[] cb] w fun e w' => e = .returned (.tuple #[]) ∧ ∃ M, Kp (M.Perm (L ++ [y]) ∧ Up key M) ∧ Kp (Rw B g c n mm w0 w' (P ++ M ++ S)) := by
  have H := Kp.mk h
  have HC := Kp.mk hc
  have hl := h.len
  have hbn : b ≤ n := by simp only [List.length_append, List.length_singleton] at hl; omega
  have hcap := h.cap
  have hXm : (P ++ L ++ [y] ++ S).getD m 0 = y := by
    have := at_R P L [y] S a m 0 ha hm (by simp)
    simpa using this
  have HXL := Kp.mk (show ∀ q, q < L.length → (P ++ L ++ [y] ++ S).getD (a + q) 0 = L.getD q 0 from fun q hq => at_L P L [y] S a q ha hq)
  have HE := Kp.mk (And.intro ha (And.intro hm hb))
  have HU := Kp.mk hL
  have t1 : ((m : Int) - a == 1) = false := by rw [beq_eq_false_iff_ne]; omega
  have t1' : ¬ (m : Int) - a = 1 := by omega
  have t2 : ((b : Int) - m == 1) = true := by rw [beq_iff_eq]; omega
  have t2' : (b : Int) - m = 1 := by omega
  have HXM := Kp.mk hXm
  clear h hc hl hL hXm
  go_enter Try.func170, Try.ntmps170
  go_wp2
  go_loopw [14, 15] (fun u v wr => ∃ (p q : Nat), p ≤ q ∧ q ≤ L.length ∧ u = .int .i64 ((a + p : Nat) : Int) ∧ v = .int .i64 ((a + q : Nat) : Int) ∧ Kp ((p = 0 ∨ key (L.getD (p - 1) 0) ≤ key y) ∧ (q = L.length ∨ key y < key (L.getD q 0))) ∧ Kp (Rw B g c n mm w0 wr (P ++ L ++ [y] ++ S))) (fun u v _ => (intOf v).toNat - (intOf u).toNat)
  case atStart => exact ⟨0, L.length, Nat.zero_le _, Nat.le_refl _, rfl, by first | rfl | (rw [hm]), ⟨.inl rfl, .inl rfl⟩, H⟩
  case round =>
    clear H
    obtain ⟨p, q, hpq, hq, rfl, rfl, HI, HR⟩ := hrel
    by_cases hlt : p < q
    · obtain ⟨h, hh⟩ : ∃ h, h = (p + q) / 2 + (if (p + q) % 2 = 1 then 0 else 0) := ⟨_, rfl⟩
      have hh' : h = (p + q) / 2 := by rw [hh]; simp
      have e1 : (((a + p : Nat) : Int) + ((a + q : Nat) : Int)) / 2 = ((a + h : Nat) : Int) := by omega
      have e1' : ((a : Int) + p + ((a : Int) + q)) / 2 = ((a + h : Nat) : Int) := by omega
      have hph : p ≤ h := by omega
      have hhq : h < q := by omega
      have hhn : a + h < n := by omega
      have hmn : m < n := by omega
      have c1 := HR.out.at (a + h) hhn
      have c2 := HR.out.at m hmn
      have l1 := HR.out.lt_at (a + h) hhn
      have l2 := HR.out.lt_at m hmn
      rw [HXL.out h (by omega)] at c1 l1
      rw [HXM.out] at c2 l2
      have hgi : w0.grownBy wr (some g) := HR.out.gr
      have HGX := Kp.mk (fun (X : Later wr) => grown_trans hgi (grown_of_below (r := some g) X.le))
      have CK := Kp.mk (fun (W : World) (hW : w0.grownBy W (some g)) => HC.out W hW y (L.getD h 0) l2 l1)
      obtain ⟨z, hz⟩ : ∃ z, z = L.getD h 0 := ⟨_, rfl⟩
      rw [← hz] at c1 l1 CK
      have HY := Kp.mk hz
      have k1 := later_cell c1
      have k2 := later_cell c2
      clear hh hh' hz
      by_cases hxy : key y < key z
      · have tc : decide (cmpI (key y) (key z) < 0) = true := decide_eq_true ((cmpI_lt _ _).2 hxy)
        have HI2 := Kp.mk (show (p = 0 ∨ key (L.getD (p - 1) 0) ≤ key y) ∧ (h = L.length ∨ key y < key (L.getD h 0)) from ⟨HI.out.1, .inr (by rw [← HY.out]; exact hxy)⟩)
        clear hxy
        go_wp2
        refine region_later (by kernel_rfl) (by kernel_rfl) ?_
        iterate 12 (go_big_quiet_step ((go_at_fn f; exact q_later (CK.out _ (HGX.out _)))))
        refine wpQuiet_nil ?_
        rintro w' ⟨xl, rfl⟩
        have HR3 := Kp.mk (HR.out.later xl.le)
        clear k1 k2 c1 c2 CK HGX hgi HR
        go_wp2
        go_roundw
        case rel => exact ⟨p, h, by omega, by omega, rfl, by first | rfl | go_num, HI2, HR3⟩
        case measure => simp [intOf]; omega
      · have tc : decide (cmpI (key y) (key z) < 0) = false := decide_eq_false (fun hh => hxy ((cmpI_lt _ _).1 hh))
        have HI2 := Kp.mk (show (h + 1 = 0 ∨ key (L.getD (h + 1 - 1) 0) ≤ key y) ∧ (q = L.length ∨ key y < key (L.getD q 0)) from ⟨.inr (by rw [Nat.add_sub_cancel, ← HY.out]; omega), HI.out.2⟩)
        clear hxy
        go_wp2
        refine region_later (by kernel_rfl) (by kernel_rfl) ?_
        iterate 12 (go_big_quiet_step ((go_at_fn f; exact q_later (CK.out _ (HGX.out _)))))
        refine wpQuiet_nil ?_
        rintro w' ⟨xl, rfl⟩
        have HR3 := Kp.mk (HR.out.later xl.le)
        clear k1 k2 c1 c2 CK HGX hgi HR
        go_wp2
        go_roundw
        case rel => exact ⟨h + 1, q, by omega, hq, by go_num, rfl, HI2, HR3⟩
        case measure => simp [intOf]; omega
    · obtain rfl : p = q := by omega
      have HF := Kp.mk (show (L.take p ++ y :: L.drop p).Perm (L ++ [y]) ∧ Up key (L.take p ++ y :: L.drop p) from by
        have := ins_at HU.out hq HI.out.1 (by have := HI.out.2; omega)
        exact ⟨this.1.trans (List.perm_append_comm (l₁ := [y])), this.2⟩)
      clear HI
      go_wp2
      obtain ⟨w2, rfl⟩ : ∃ w2 : World, w2 = wr := ⟨_, rfl⟩
      go_loopw [17] (fun i wr => ∃ (s : Nat), p ≤ s ∧ s ≤ L.length ∧ i = .int .i64 ((a + s : Nat) : Int) ∧ Kp (Rw B g c n mm w0 wr (P ++ (L.take s ++ y :: L.drop s) ++ S))) (fun i _ => (intOf i).toNat)
      case atStart => exact ⟨L.length, hq, Nat.le_refl _, by first | rfl | (rw [hm]), by simpa using HR⟩
      case round =>
        clear HR
        obtain ⟨s, hps, hs, rfl, HR⟩ := hrel
        by_cases hlt2 : p < s
        · obtain ⟨k, rfl⟩ : ∃ k, s = k + 1 := ⟨s - 1, by omega⟩
          have hsR : k < L.length := by omega
          obtain ⟨z, hz⟩ : ∃ z, z = L[k] := ⟨_, rfl⟩
          have hd : L.drop k = z :: L.drop (k + 1) := by rw [hz]; exact (List.getElem_cons_drop ..).symm
          have ht : L.take (k + 1) = L.take k ++ [z] := by rw [hz]; exact List.take_succ_eq_append_getElem hsR
          have hlt' : (L.take k).length = k := by rw [List.length_take]; omega
          obtain ⟨ha, hm, hb⟩ := HE.out
          have HR2 := Kp.mk (show Rw B g c n mm w0 wr ((P ++ L.take k) ++ z :: ([] ++ y :: (L.drop (k + 1) ++ S))) from by
            have := HR.out
            rw [ht] at this
            simpa using this)
          obtain ⟨t1, t2⟩ := two_at (P ++ L.take k) [] (L.drop (k + 1) ++ S) z y (a + k) (a + (k + 1)) (by rw [List.length_append]; omega) (by rw [List.length_append]; simp; omega)
          have hsw := swap_two (P ++ L.take k) [] (L.drop (k + 1) ++ S) z y (a + k) (a + (k + 1)) (by rw [List.length_append]; omega) (by rw [List.length_append]; simp; omega)
          have hin : a + (k + 1) < n := by omega
          have HR4 := Kp.mk (HR2.out.swap (a := a + (k + 1)) (b := a + k) hin (by omega) t2 t1)
          rw [List.set_comm _ _ (by omega), hsw] at HR4
          have HR5 := Kp.mk (show Rw B g c n mm w0 _ (P ++ (L.take k ++ y :: L.drop k) ++ S) from by
            have := HR4.out
            rw [hd]
            simpa using this)
          have c1 := HR2.out.at (a + k) (by omega)
          have c2 := HR2.out.at (a + (k + 1)) hin
          have f1 := HR2.out.own.frozenAt (a + k)
          have f2 := HR2.out.own.frozenAt (a + (k + 1))
          rw [t1] at c1
          rw [t2] at c2
          obtain ⟨v2, hv2⟩ := cell?_setCell_some (w := wr) (p := ⟨g, a + (k + 1), none⟩) (x := .int .i64 (z : Int)) (q := ⟨g, a + k, none⟩) (v := .int .i64 (z : Int)) c1
          have tl : decide (((a + (k + 1) : Nat) : Int) > ((a + p : Nat) : Int)) = true := decide_eq_true (by omega)
          clear HR HR2 HR4 hsw t1 t2 hd ht hz ha hm hb
          go_wp2
          go_region
          go_wp2
          go_roundw
          case rel => exact ⟨k, by omega, by omega, by go_num, HR5⟩
          case measure => simp [intOf]; omega
        · obtain rfl : s = p := by omega
          obtain ⟨ha, hm, hb⟩ := HE.out
          go_wp2
          (try simp only [Exit.inBlock, Exit.then])
          refine bodyPost_ret (results_none rfl _ _ _) rfl ?_
          exact ⟨rfl, L.take s ++ y :: L.drop s, HF, ⟨by simpa using HR.out⟩⟩

end Go.Proofs.Ytlmdlholmlbcbaa

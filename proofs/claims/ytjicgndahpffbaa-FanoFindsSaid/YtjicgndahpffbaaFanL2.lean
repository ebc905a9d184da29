/- FanoFinds: the walk. -/
import Derived.Test.YtjicgndahpffbaaFanL
namespace Go.Proofs.Ytjicgndahpffbaa
set_option linter.unusedVariables false
open Go.RowKit

set_option maxRecDepth 100000 in
set_option maxHeartbeats 4000000 in
theorem walk_FanoFinds (a0 : Option Addr) (len0 cap0 : Nat) (z0 : List Int) (a1 a2 : Int) (w : World) (w0 : IsRow .i64 w a0 len0 cap0 z0) (w1 : (Lit.int .i64 a1).wf = true) (w2 : (Lit.int .i64 a2).wf = true) :
    Calls Try.prog 7 #[.slice a0 len0 cap0, .int .i64 a1, .int .i64 a2] w fun e w' => e = .returned (.bool true) ∧ Below w.heap.size w w' := by
  obtain ⟨l, rfl, hl, wl, nl⟩ := row_sl w0
  obtain ⟨c1, c2⟩ := wf_bd w1
  obtain ⟨c3, c4⟩ := wf_bd w2
  unfold maxLen at nl
  have HL := Kp.mk hl
  have WL := Kp.mk wl
  obtain ⟨q, hq, ql⟩ := pick_nat a1 300 (by omega)
  have HQ := Kp.mk hq
  obtain ⟨s, hs⟩ : ∃ s, s = 1 + q := ⟨_, rfl⟩
  have e1 : IntKind.i64.wrap (1 + (q : Int)) = (s : Int) := by rw [show 1 + (q : Int) = s by omega]; exact IntWalk.i64_in _ (by omega)
  have hs0 : 0 < s := by omega
  have hs3 : s ≤ 300 := by omega
  clear w0 w1 w2 hl wl hq hs
  go_enter Try.func7, Try.ntmps7
  go_wp2_with fail
  refine (picked_any a1 300 w (by omega) (by omega) c1 c2).mono ?_
  rintro e w' ⟨rfl, rfl⟩
  rw [HQ.out]
  go_wp2_with fail
  refine (rising_any a0 cap0 l.length 80 s l w HL.out rfl (by omega) (by omega) hs0 (by omega) WL.out).mono ?_
  rintro e w1 ⟨ra, rc, n, rfl, hn, HO, hb1⟩
  have HS1 := Kp.mk (show SlI w1 ra rc ((risL l s n).map Int.ofNat) from own_sl_len HO.out (by rw [List.length_map, risL_length]))
  have HB1 := Kp.mk hb1
  have HRL := Kp.mk (risL_length l s n)
  have HRR := Kp.mk (risL_ris l s n)
  have hTop : ∀ i, i < n → (risL l s n).getD i 0 ≤ accN l s n := fun i hi => by
    rw [risL_at l s n i hi]; exact accN_mono l s _ _ (by omega)
  have hacc : accN l s n ≤ 80 * 300 := Nat.le_trans (accN_le l s n hs0) (Nat.mul_le_mul hn hs3)
  have hlast : 0 < n → (risL l s n).getD (n - 1) 0 = accN l s n := fun h0 => by
    rw [risL_at l s n (n - 1) (by omega)]; congr 1; omega
  obtain ⟨bd, hbd⟩ : ∃ bd, bd = if 0 < n then 10 + accN l s n else 10 := ⟨_, rfl⟩
  have hbd2 : bd ≤ 100000 := by rw [hbd]; split <;> omega
  have hbd3 : bd ≤ 1048576 := by omega
  have HX := Kp.mk (show ∀ i, i < n → (risL l s n).getD i 0 ≤ bd from fun i hi => by
    rw [hbd, if_pos (by omega)]; have := hTop i hi; omega)
  have HLA := Kp.mk hlast
  have HBD := Kp.mk hbd
  have HAC := Kp.mk hacc
  generalize risL l s n = R at *
  generalize accN l s n = top at *
  clear hTop hlast hbd hb1 HO hacc
  obtain ⟨xq, hxq, xql⟩ := pick_nat a2 ((bd : Int) + 1) (by omega)
  have CX := Kp.mk (fun W => hxq ▸ picked_any a2 ((bd : Int) + 1) W (by omega) (by omega) c3 c4)
  have k0 : IntKind.i64.wrap ((bd : Int) + 1) = (bd : Int) + 1 := IntWalk.i64_in _ (by omega)
  have hor : (n = 0 ∧ 10 = bd) ∨ (0 < n ∧ ∃ b off, ra = some ⟨b, off, none⟩ ∧ w1.cell? ⟨b, off + (n - 1), none⟩ = some (.int .i64 top) ∧ IntKind.i64.wrap (10 + (top : Int)) = bd ∧ IntKind.i64.wrap ((n : Int) - 1) = ((n - 1 : Nat) : Int)) := by
    rcases Nat.eq_zero_or_pos n with h0 | h0
    · refine .inl ⟨h0, ?_⟩
      have := HBD.out
      rw [if_neg (by omega)] at this; exact this.symm
    · refine .inr ⟨h0, ?_⟩
      obtain ⟨b, off, e, c⟩ := HS1.out.at (n - 1) (by rw [List.length_map, HRL.out]; omega)
      have ee : (R.map Int.ofNat)[n - 1]'(by rw [List.length_map, HRL.out]; omega) = (top : Int) := by
        rw [← HLA.out h0, getD_at _ _ (by rw [HRL.out]; omega)]; simp
      rw [ee] at c
      have hb := HBD.out
      rw [if_pos h0] at hb
      have ha := HAC.out
      exact ⟨b, off, e, c, by rw [show 10 + (top : Int) = bd by omega]; exact IntWalk.i64_in _ (by omega), by rw [show (n : Int) - 1 = ((n - 1 : Nat) : Int) by omega]; exact IntWalk.i64_in _ (by omega)⟩
  clear HBD hxq
  rcases hor with ⟨hn0, hmb⟩ | ⟨hn0, b, off, rfl, cl, f1, f2⟩
  · subst hn0
    subst hmb
    clear HLA
    go_wp2_with fail
    refine (copied_n _ _ 0 _ _ HS1.out (by rw [List.length_map]; exact HRL.out) (by omega)).mono ?_
    rintro e w2 ⟨ca, cc, rfl, hcp, hb2⟩
    have HCP := Kp.mk hcp
    have HS2 := Kp.mk (HS1.out.below hb2)
    have HB2 := Kp.mk (HB1.out.trans (hb2.mono HB1.out.size))
    clear hcp hb2
    go_wp2_with fail
    refine (fmake_any ca cc _ 0 R w2 HCP.out HRL.out (by omega) hbd3 HRR.out HX.out).mono ?_
    rintro e w3 ⟨wd, hn', la, ha, lc, hc, rfl, HF, HB3⟩
    have hal := below_alloc (Nat.le_refl w3.heap.size) (.cells #[.int .i64 10, .int .i64 0, .int .i64 wd, .slice la (wordsN 0 wd) lc, .int .i64 hn', .slice ha (bwN hn') hc] 44)
    have HBX := Kp.mk (Box.new w3 #[.int .i64 10, .int .i64 0, .int .i64 wd, .slice la (wordsN 0 wd) lc, .int .i64 hn', .slice ha (bwN hn') hc] 44)
    have HFI := Kp.mk (show FanIn (w3.alloc (.cells #[.int .i64 10, .int .i64 0, .int .i64 wd, .slice la (wordsN 0 wd) lc, .int .i64 hn', .slice ha (bwN hn') hc] 44)) w2.heap.size 10 0 wd hn' la ha lc hc R from ⟨HF.out.below hal, by omega, hbd3, HRR.out, HX.out⟩)
    have HB4 := Kp.mk (HB2.out.trans ((below_step HB3.out hal).mono HB2.out.size))
    have HS4 := Kp.mk (HS2.out.below (below_step HB3.out hal))
    obtain ⟨x, hx⟩ : ∃ x, x = w3.heap.size := ⟨_, rfl⟩
    clear hal HCP HS2 HB2 HB3 HF HB1 HS1
    go_upto_region 6 with (fail)
    rw [← hx] at HBX ⊢
    clear hx
    generalize w3.alloc (.cells #[.int .i64 10, .int .i64 0, .int .i64 wd, .slice la (wordsN 0 wd) lc, .int .i64 hn', .slice ha (bwN hn') hc] 44) = w4 at *
    go_wp2_with fail
    refine (CX.out _).mono ?_
    rintro e w' ⟨rfl, rfl⟩
    have b0 := HBX.out.cell 0 rfl
    have b1 := HBX.out.cell 1 rfl
    have b2 := HBX.out.cell 2 rfl
    have b3 := HBX.out.cell 3 rfl
    have b4 := HBX.out.cell 4 rfl
    have b5 := HBX.out.cell 5 rfl
    go_wp2_with fail
    refine (fnext_any 10 0 wd hn' _ xq la ha lc hc R w4 HFI.out).mono ?_
    rintro e w5 ⟨k, hk, H1, H2, E1, E2, hb5⟩
    have HBX5 := Kp.mk (HBX.out.below hb5)
    have HFI5 := Kp.mk (HFI.out.below hb5)
    have HS5 := Kp.mk (HS4.out.below hb5)
    have HB5 := Kp.mk (HB4.out.trans (hb5.mono HB4.out.size))
    clear b0 b1 b2 b3 b4 b5 hb5 HBX HFI HS4 HB4
    obtain rfl : k = 0 := by omega
    obtain rfl := E2 rfl
    have b0 := HBX5.out.cell 0 rfl
    have b1 := HBX5.out.cell 1 rfl
    have b2 := HBX5.out.cell 2 rfl
    have b3 := HBX5.out.cell 3 rfl
    have b4 := HBX5.out.cell 4 rfl
    have b5 := HBX5.out.cell 5 rfl
    go_wp2_with fail
    refine (fmay_any 10 0 wd hn' _ la ha lc hc R w5 HFI5.out).mono ?_
    rintro e w6 ⟨rfl, hb6⟩
    have HS6 := Kp.mk (HS5.out.below hb6)
    have HBF := Kp.mk (HB5.out.trans (hb6.mono HB5.out.size))
    clear b0 b1 b2 b3 b4 b5 hb6
    go_wp2
    go_ret
    exact ⟨rfl, HBF.out⟩
  · have hz : (0 : Int) < n := by omega
    have hz3 : ((n - 1 : Nat) : Int) < n := by omega
    clear HLA
    go_wp2_with fail
    refine (copied_n _ _ n _ _ HS1.out (by rw [List.length_map]; exact HRL.out) (by omega)).mono ?_
    rintro e w2 ⟨ca, cc, rfl, hcp, hb2⟩
    have HCP := Kp.mk hcp
    have HS2 := Kp.mk (HS1.out.below hb2)
    have HB2 := Kp.mk (HB1.out.trans (hb2.mono HB1.out.size))
    clear hcp hb2
    go_wp2_with fail
    refine (fmake_any ca cc _ n R w2 HCP.out HRL.out (by omega) hbd3 HRR.out HX.out).mono ?_
    rintro e w3 ⟨wd, hn', la, ha, lc, hc, rfl, HF, HB3⟩
    have hal := below_alloc (Nat.le_refl w3.heap.size) (.cells #[.int .i64 bd, .int .i64 n, .int .i64 wd, .slice la (wordsN n wd) lc, .int .i64 hn', .slice ha (bwN hn') hc] 44)
    have HBX := Kp.mk (Box.new w3 #[.int .i64 bd, .int .i64 n, .int .i64 wd, .slice la (wordsN n wd) lc, .int .i64 hn', .slice ha (bwN hn') hc] 44)
    have HFI := Kp.mk (show FanIn (w3.alloc (.cells #[.int .i64 bd, .int .i64 n, .int .i64 wd, .slice la (wordsN n wd) lc, .int .i64 hn', .slice ha (bwN hn') hc] 44)) w2.heap.size bd n wd hn' la ha lc hc R from ⟨HF.out.below hal, by omega, hbd3, HRR.out, HX.out⟩)
    have HB4 := Kp.mk (HB2.out.trans ((below_step HB3.out hal).mono HB2.out.size))
    have HS4 := Kp.mk (HS2.out.below (below_step HB3.out hal))
    obtain ⟨x, hx⟩ : ∃ x, x = w3.heap.size := ⟨_, rfl⟩
    clear hal HCP HS2 HB2 HB3 HF HB1 HS1
    go_upto_region 6 with (fail)
    rw [← hx] at HBX ⊢
    clear hx
    generalize w3.alloc (.cells #[.int .i64 bd, .int .i64 n, .int .i64 wd, .slice la (wordsN n wd) lc, .int .i64 hn', .slice ha (bwN hn') hc] 44) = w4 at *
    go_wp2_with fail
    refine (CX.out _).mono ?_
    rintro e w' ⟨rfl, rfl⟩
    have b0 := HBX.out.cell 0 rfl
    have b1 := HBX.out.cell 1 rfl
    have b2 := HBX.out.cell 2 rfl
    have b3 := HBX.out.cell 3 rfl
    have b4 := HBX.out.cell 4 rfl
    have b5 := HBX.out.cell 5 rfl
    go_wp2_with fail
    refine (fnext_any bd n wd hn' _ xq la ha lc hc R w4 HFI.out).mono ?_
    rintro e w5 ⟨k, hk, H1, H2, E1, E2, hb5⟩
    have HBX5 := Kp.mk (HBX.out.below hb5)
    have HFI5 := Kp.mk (HFI.out.below hb5)
    have HS5 := Kp.mk (HS4.out.below hb5)
    have HB5 := Kp.mk (HB4.out.trans (hb5.mono HB4.out.size))
    clear b0 b1 b2 b3 b4 b5 hb5 HBX HFI HS4 HB4
    have get : ∀ i, i < n → ∀ W b off c, SlI W (some ⟨b, off, none⟩) c (R.map Int.ofNat) → W.cell? ⟨b, off + i, none⟩ = some (.int .i64 ((R.getD i 0 : Nat) : Int)) := fun i hi W b off c h => by
      obtain ⟨b', off', e0, cx⟩ := h.at i (by rw [List.length_map, HRL.out]; exact hi)
      simp only [Option.some.injEq, Addr.mk.injEq, and_true] at e0
      obtain ⟨rfl, rfl⟩ := e0
      rw [cx, getD_at _ _ (by rw [HRL.out]; exact hi)]; simp
    have GET := Kp.mk get
    clear get
    by_cases hlt : k < n
    · obtain rfl := E1 hlt
      have b0 := HBX5.out.cell 0 rfl
      have b1 := HBX5.out.cell 1 rfl
      have b2 := HBX5.out.cell 2 rfl
      have b3 := HBX5.out.cell 3 rfl
      have b4 := HBX5.out.cell 4 rfl
      have b5 := HBX5.out.cell 5 rfl
      go_wp2_with fail
      refine (fmay_any bd n wd hn' _ la ha lc hc R w5 HFI5.out).mono ?_
      rintro e w6 ⟨rfl, hb6⟩
      have HS6 := Kp.mk (HS5.out.below hb6)
      have HBF := Kp.mk (HB5.out.trans (hb6.mono HB5.out.size))
      clear b0 b1 b2 b3 b4 b5 hb6
      have cx := GET.out k hlt _ _ _ _ HS6.out
      have hx1 := H2.out hlt
      have g1 : decide ((xq : Int) ≤ (R.getD k 0 : Nat)) = true := decide_eq_true (by omega)
      have hkz : (k : Int) < n := by omega
      rcases Nat.eq_zero_or_pos k with hk0 | hk0
      · subst hk0
        generalize R.getD 0 0 = v at *
        have g2 : (xq : Int) ≤ v := by omega
        rw [Nat.add_zero] at cx
        clear E1 E2
        go_wp2
        go_ret
        exact ⟨rfl, HBF.out⟩
      · have cy := GET.out (k - 1) (by omega) _ _ _ _ HS6.out
        have hx2 := H1.out (k - 1) (by omega)
        generalize R.getD k 0 = v at *
        generalize R.getD (k - 1) 0 = u at *
        have g2 : (xq : Int) ≤ v := by omega
        have g3 : (u : Int) < xq := by omega
        have g4 : decide ((u : Int) < xq) = true := decide_eq_true g3
        have g5 : IntKind.i64.wrap ((k : Int) - 1) = ((k - 1 : Nat) : Int) := by rw [show (k : Int) - 1 = ((k - 1 : Nat) : Int) by omega]; exact IntWalk.i64_in _ (by omega)
        have g6 : ((k : Int) == 0) = false := beq_eq_false_iff_ne.2 (by omega)
        have g7 : ¬ k = 0 := by omega
        have g8 : ((k - 1 : Nat) : Int) < n := by omega
        clear E1 E2
        go_wp2
        go_ret
        exact ⟨rfl, HBF.out⟩
    · obtain rfl : k = n := by omega
      obtain rfl := E2 rfl
      have b0 := HBX5.out.cell 0 rfl
      have b1 := HBX5.out.cell 1 rfl
      have b2 := HBX5.out.cell 2 rfl
      have b3 := HBX5.out.cell 3 rfl
      have b4 := HBX5.out.cell 4 rfl
      have b5 := HBX5.out.cell 5 rfl
      go_wp2_with fail
      refine (fmay_any bd k wd hn' _ la ha lc hc R w5 HFI5.out).mono ?_
      rintro e w6 ⟨rfl, hb6⟩
      have HS6 := Kp.mk (HS5.out.below hb6)
      have HBF := Kp.mk (HB5.out.trans (hb6.mono HB5.out.size))
      clear b0 b1 b2 b3 b4 b5 hb6
      have cx := GET.out (k - 1) (by omega) _ _ _ _ HS6.out
      have hx2 := H1.out (k - 1) (by omega)
      generalize R.getD (k - 1) 0 = u at *
      have g3 : (u : Int) < xq := by omega
      have g4 : decide ((u : Int) < xq) = true := decide_eq_true g3
      have g6 : ((k : Int) == 0) = false := beq_eq_false_iff_ne.2 (by omega)
      have g7 : ¬ k = 0 := by omega
      clear E1 E2
      go_wp2
      go_ret
      exact ⟨rfl, HBF.out⟩

end Go.Proofs.Ytjicgndahpffbaa

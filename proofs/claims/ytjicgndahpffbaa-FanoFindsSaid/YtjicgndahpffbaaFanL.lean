/- Rising, FanoBack, FanoFinds: the walks. -/
import Derived.Test.YtjicgndahpffbaaFanR
import Derived.Test.YtjicgndahpffbaaNum
namespace Go.Proofs.Ytjicgndahpffbaa
set_option linter.unusedVariables false
open Go.RowKit

def accN (l : List Int) (s : Nat) : Nat → Nat
  | 0 => 0
  | k + 1 => accN l s k + (pick (l.getD k 0) s).toNat
def risL (l : List Int) (s k : Nat) : List Nat := (List.range k).map fun i => accN l s (i + 1)
theorem risL_length (l : List Int) (s k : Nat) : (risL l s k).length = k := by simp [risL]
theorem risL_succ (l : List Int) (s k : Nat) : risL l s (k + 1) = risL l s k ++ [accN l s (k + 1)] := by
  rw [risL, List.range_succ, List.map_append]; rfl
theorem risL_at (l : List Int) (s k i : Nat) (h : i < k) : (risL l s k).getD i 0 = accN l s (i + 1) := by
  rw [getD_at _ _ (by rw [risL_length]; exact h)]; simp [risL]
theorem accN_succ (l : List Int) (s k : Nat) : accN l s (k + 1) = accN l s k + (pick (l.getD k 0) s).toNat := rfl
theorem accN_mono (l : List Int) (s i : Nat) : ∀ j, i ≤ j → accN l s i ≤ accN l s j
  | 0, h => by obtain rfl : i = 0 := by omega
               exact Nat.le_refl _
  | j + 1, h => by
    rcases Nat.eq_or_lt_of_le h with e | e
    · rw [e]; exact Nat.le_refl _
    · have := accN_mono l s i j (by omega)
      rw [accN_succ]; omega
theorem accN_le (l : List Int) (s k : Nat) (hs : 0 < s) : accN l s k ≤ k * s := by
  induction k with
  | zero => simp [accN]
  | succ k ih =>
    have := pick_bd (l.getD k 0) s (by omega)
    rw [accN_succ, Nat.succ_mul]; omega
theorem risL_ris (l : List Int) (s k : Nat) : Ris (risL l s k) := by
  intro i j hij hj
  rw [risL_length] at hj
  rw [risL_at l s k i (by omega), risL_at l s k j hj]
  exact accN_mono l s _ _ (by omega)
attribute [irreducible] risL accN

set_option maxRecDepth 100000 in
set_option maxHeartbeats 2000000 in
theorem rising_any (a : Option Addr) (cap m n s : Nat) (l : List Int) (w : World) (h : SlI w a cap l) (hl : l.length = m) (hm : m ≤ 9223372036854775807) (hn : n ≤ 1000) (hs : 0 < s) (hs2 : s ≤ 100000) (hw : ∀ x ∈ l, (Lit.int .i64 x).wf = true) :
    Calls Try.prog 23 #[.slice a m cap, .int .i64 n, .int .i64 s] w (fun e w' => ∃ oa oc r, e = .returned (.slice oa r oc) ∧ r ≤ n ∧ Kp (w'.ownsRow w.heap.size 3 1 (.slice oa r oc) r (ints ((risL l s r).map Int.ofNat))) ∧ Below w.heap.size w w') := by
  have H := Kp.mk h
  have HW := Kp.mk hw
  have HL := Kp.mk hl
  obtain ⟨B, hB⟩ : ∃ B, B = w.heap.size := ⟨_, rfl⟩
  have HB := Kp.mk hB
  clear h hw hl hB
  go_enter Try.func23, Try.ntmps23
  go_wp2
  go_loopw [7, 8, 9] (fun v x i wr => ∃ (k : Nat) (sa : Option Addr) (sc : Nat), k ≤ m ∧ k ≤ n ∧ i = .int .i64 k ∧ x = .int .i64 (accN l s k) ∧ v = .slice sa k sc ∧ Kp (wr.ownsRow B 3 1 (.slice sa k sc) k (ints ((risL l s k).map Int.ofNat))) ∧ Kp (Below B w wr)) (fun _ _ i _ => m - (intOf i).toNat)
  case atStart => exact ⟨0, none, 0, Nat.zero_le _, Nat.zero_le _, rfl, by unfold accN; rfl, rfl, ⟨by unfold risL; exact World.ownsRow_nil _ _ _ _⟩, ⟨Below.refl _ _⟩⟩
  case round =>
    obtain ⟨k, sa, sc, hkm, hkn, rfl, rfl, rfl, HO, HBL⟩ := hrel
    by_cases hgo : k < m ∧ k < n
    · obtain ⟨hlt, hltn⟩ := hgo
      have hkl : k < l.length := by rw [HL.out]; exact hlt
      obtain ⟨b, off, rfl, cx⟩ := (H.out.below (show Below w.heap.size w wr from by rw [← HB.out]; exact HBL.out)).at k hkl
      have hwf := HW.out _ (List.getElem_mem hkl)
      obtain ⟨i1, i2⟩ := wf_bd hwf
      have HSU := Kp.mk (risL_succ l s k)
      have HAS := accN_succ l s k
      have hle := accN_le l s k hs
      have hle2 : accN l s k ≤ 1000 * 100000 := Nat.le_trans hle (Nat.mul_le_mul (by omega) hs2)
      rw [getD_at _ _ hkl] at HAS
      generalize l[k] = x at *
      obtain ⟨q, h1, l1⟩ := pick_nat x s (by omega)
      rw [h1, Int.toNat_natCast] at HAS
      have C1 := Kp.mk (fun W => h1 ▸ picked_any x s W (by omega) (by omega) i1 i2)
      obtain ⟨y, hy⟩ : ∃ y, y = accN l s (k + 1) := ⟨_, rfl⟩
      rw [← hy] at HSU HAS
      have HY := Kp.mk hy
      generalize accN l s k = z at *
      have e1 : IntKind.i64.wrap ((z : Int) + q) = (y : Int) := by rw [show (z : Int) + q = y by omega]; exact IntWalk.i64_in _ (by omega)
      have hBw : B ≤ wr.heap.size := by rw [HB.out]; exact (show Below w.heap.size w wr from by rw [← HB.out]; exact HBL.out).size
      clear hwf h1 HAS hle hy
      go_wp2_with fail
      refine (C1.out _).mono ?_
      rintro e w' ⟨rfl, rfl⟩
      go_wp2_with (at_builtin; refine wpList_push tInts rfl _ _ rfl B sa k sc _ rfl HO.out 1 1 _ rfl rfl ?d1 (by decide) ?d2 (by decide) hBw ?d4)
      case d1 => simp [Value.oneCell']
      case d2 => omega
      case d4 =>
        intro ya yc w6 ho6 hb6
        have HO6 := Kp.mk (show w6.ownsRow B 3 1 (.slice ya (k + 1) yc) (k + 1) (ints ((risL l s (k + 1)).map Int.ofNat)) from by
          rw [HSU.out, List.map_append, ints_append]; exact ho6)
        have HBL6 := Kp.mk (HBL.out.trans hb6)
        clear ho6 hb6
        go_wp2
        go_roundw
        case rel => exact ⟨k + 1, ya, yc, by omega, by omega, by go_num, by rw [HY.out], rfl, HO6, HBL6⟩
        case measure => simp [intOf]; omega
    · have hor : (k < m ∧ ¬ k < n) ∨ ¬ k < m := by
        by_cases h1 : k < m
        · exact .inl ⟨h1, fun h2 => hgo ⟨h1, h2⟩⟩
        · exact .inr h1
      clear hgo
      rcases hor with ⟨hlt, hm60⟩ | hlt
      all_goals
        go_wp2
        go_ret
        refine ⟨sa, sc, k, rfl, hkn, ⟨?_⟩, ?_⟩
        · rw [← HB.out]; exact HO.out
        · rw [← HB.out]; exact HBL.out

set_option maxRecDepth 100000 in
set_option maxHeartbeats 4000000 in
theorem walk_FanoBack (a0 : Option Addr) (len0 cap0 : Nat) (z0 : List Int) (a1 a2 : Int) (w : World) (w0 : IsRow .i64 w a0 len0 cap0 z0) (w1 : (Lit.int .i64 a1).wf = true) (w2 : (Lit.int .i64 a2).wf = true) :
    Calls Try.prog 6 #[.slice a0 len0 cap0, .int .i64 a1, .int .i64 a2] w fun e w' => e = .returned (.bool true) ∧ Below w.heap.size w w' := by
  obtain ⟨l, rfl, hl, wl, nl⟩ := row_sl w0
  obtain ⟨c1, c2⟩ := wf_bd w1
  obtain ⟨c3, c4⟩ := wf_bd w2
  unfold maxLen at nl
  have HL := Kp.mk hl
  have WL := Kp.mk wl
  obtain ⟨q, hq, ql⟩ := pick_nat a1 3000 (by omega)
  obtain ⟨m, hm, ml⟩ := pick_nat a2 5000 (by omega)
  have HQ := Kp.mk hq
  have HM := Kp.mk hm
  obtain ⟨s, hs⟩ : ∃ s, s = 1 + q := ⟨_, rfl⟩
  have e1 : IntKind.i64.wrap (1 + (q : Int)) = (s : Int) := by rw [show 1 + (q : Int) = s by omega]; exact IntWalk.i64_in _ (by omega)
  have hs0 : 0 < s := by omega
  have hs3 : s ≤ 3000 := by omega
  clear w0 w1 w2 hl wl hq hm hs
  go_enter Try.func6, Try.ntmps6
  go_wp2_with fail
  refine (picked_any a1 3000 w (by omega) (by omega) c1 c2).mono ?_
  rintro e w' ⟨rfl, rfl⟩
  rw [HQ.out]
  go_wp2_with fail
  refine (rising_any a0 cap0 l.length 120 s l w HL.out rfl (by omega) (by omega) hs0 (by omega) WL.out).mono ?_
  rintro e w1 ⟨ra, rc, n, rfl, hn, HO, hb1⟩
  have HS1 := Kp.mk (show SlI w1 ra rc ((risL l s n).map Int.ofNat) from own_sl_len HO.out (by rw [List.length_map, risL_length]))
  have HB1 := Kp.mk hb1
  have HRL := Kp.mk (risL_length l s n)
  have HRR := Kp.mk (risL_ris l s n)
  have hTop : ∀ i, i < n → (risL l s n).getD i 0 ≤ accN l s n := fun i hi => by
    rw [risL_at l s n i hi]; exact accN_mono l s _ _ (by omega)
  have hacc : accN l s n ≤ 120 * 3000 := Nat.le_trans (accN_le l s n hs0) (Nat.mul_le_mul hn hs3)
  have hlast : 0 < n → (risL l s n).getD (n - 1) 0 = accN l s n := fun h0 => by
    rw [risL_at l s n (n - 1) (by omega)]; congr 1; omega
  obtain ⟨bd, hbd⟩ : ∃ bd, bd = if 0 < n then m + accN l s n else m := ⟨_, rfl⟩
  have hbd2 : bd ≤ 1048576 := by rw [hbd]; split <;> omega
  have HX := Kp.mk (show ∀ i, i < n → (risL l s n).getD i 0 ≤ bd from fun i hi => by
    rw [hbd, if_pos (by omega)]; have := hTop i hi; omega)
  have HLA := Kp.mk hlast
  have HBD := Kp.mk hbd
  have HAC := Kp.mk hacc
  generalize risL l s n = R at *
  generalize accN l s n = top at *
  clear hTop hlast hbd hb1 HO hacc
  go_wp2_with fail
  refine (picked_any a2 5000 w1 (by omega) (by omega) c3 c4).mono ?_
  rintro e w' ⟨rfl, rfl⟩
  rw [HM.out]
  have hor : (n = 0 ∧ m = bd ∧ ¬ (0 : Int) < n ∧ decide ((0 : Int) < n) = false) ∨ (0 < n ∧ ∃ b off, ra = some ⟨b, off, none⟩ ∧ w1.cell? ⟨b, off + (n - 1), none⟩ = some (.int .i64 top) ∧ IntKind.i64.wrap ((m : Int) + top) = bd ∧ IntKind.i64.wrap ((n : Int) - 1) = ((n - 1 : Nat) : Int)) := by
    rcases Nat.eq_zero_or_pos n with h0 | h0
    · refine .inl ⟨h0, ?_, by omega, decide_eq_false (by omega)⟩
      have := HBD.out
      rw [if_neg (by omega)] at this; exact this.symm
    · refine .inr ⟨h0, ?_⟩
      obtain ⟨b, off, e, c⟩ := HS1.out.at (n - 1) (by rw [List.length_map, HRL.out]; omega)
      have ee : (R.map Int.ofNat)[n - 1]'(by rw [List.length_map, HRL.out]; omega) = (top : Int) := by
        rw [← HLA.out h0, getD_at _ _ (by rw [HRL.out]; omega)]; simp
      rw [ee] at c
      have hb := HBD.out
      rw [if_pos h0] at hb
      have ha := HAC.out
      exact ⟨b, off, e, c, by rw [show (m : Int) + top = bd by omega]; exact IntWalk.i64_in _ (by omega), by rw [show (n : Int) - 1 = ((n - 1 : Nat) : Int) by omega]; exact IntWalk.i64_in _ (by omega)⟩
  clear HLA HBD
  rcases hor with ⟨hn0, hmb, hz, hz2⟩ | ⟨hn0, b, off, rfl, cl, f1, f2⟩
  · subst hn0
    subst hmb
    clear hz hz2
    go_wp2_with fail
    refine (copied_n _ _ 0 _ _ HS1.out (by rw [List.length_map]; exact HRL.out) (by omega)).mono ?_
    rintro e w2 ⟨ca, cc, rfl, hcp, hb2⟩
    have HCP := Kp.mk hcp
    have HS2 := Kp.mk (HS1.out.below hb2)
    have HB2 := Kp.mk (HB1.out.trans (hb2.mono HB1.out.size))
    clear hcp hb2
    go_wp2_with fail
    refine (fmake_any ca cc _ 0 R w2 HCP.out HRL.out (by omega) hbd2 HRR.out HX.out).mono ?_
    rintro e w3 ⟨wd, hn', la, ha, lc, hc, rfl, HF, HB3⟩
    have k1 := (HF.out.hnb hbd2).1
    have hal := below_alloc (Nat.le_refl w3.heap.size) (.cells #[.int .i64 m, .int .i64 0, .int .i64 wd, .slice la (wordsN 0 wd) lc, .int .i64 hn', .slice ha (bwN hn') hc] 44)
    have HBX := Kp.mk (Box.new w3 #[.int .i64 m, .int .i64 0, .int .i64 wd, .slice la (wordsN 0 wd) lc, .int .i64 hn', .slice ha (bwN hn') hc] 44)
    have HFI := Kp.mk (show FanIn (w3.alloc (.cells #[.int .i64 m, .int .i64 0, .int .i64 wd, .slice la (wordsN 0 wd) lc, .int .i64 hn', .slice ha (bwN hn') hc] 44)) w2.heap.size m 0 wd hn' la ha lc hc R from ⟨HF.out.below hal, by omega, hbd2, HRR.out, HX.out⟩)
    have HB4 := Kp.mk (HB2.out.trans ((below_step HB3.out hal).mono HB2.out.size))
    have HS4 := Kp.mk (HS2.out.below (below_step HB3.out hal))
    obtain ⟨x, hx⟩ : ∃ x, x = w3.heap.size := ⟨_, rfl⟩
    clear hal HCP HS2 HB2 HB3 HF HB1 HS1
    go_upto_region 6 with (fail)
    rw [← hx] at HBX ⊢
    clear hx
    generalize w3.alloc (.cells #[.int .i64 m, .int .i64 0, .int .i64 wd, .slice la (wordsN 0 wd) lc, .int .i64 hn', .slice ha (bwN hn') hc] 44) = w4 at *
    have b0 := HBX.out.cell 0 rfl
    have b1 := HBX.out.cell 1 rfl
    have b2 := HBX.out.cell 2 rfl
    have b3 := HBX.out.cell 3 rfl
    have b4 := HBX.out.cell 4 rfl
    have b5 := HBX.out.cell 5 rfl
    go_wp2_with fail
    refine (fmay_any m 0 wd hn' _ la ha lc hc R w4 HFI.out).mono ?_
    rintro e w5 ⟨rfl, hb5⟩
    have HBX5 := Kp.mk (HBX.out.below hb5)
    have HFI5 := Kp.mk (HFI.out.below hb5)
    have HS5 := Kp.mk (HS4.out.below hb5)
    have HB5 := Kp.mk (HB4.out.trans (hb5.mono HB4.out.size))
    clear b0 b1 b2 b3 b4 b5 hb5 HBX HFI HS4 HB4
    have b1 := HBX5.out.cell 1 rfl
    have b4 := HBX5.out.cell 4 rfl
    have g1 : IntKind.i64.wrap (3 * (0 : Int)) = 3 * (0 : Int) := IntWalk.i64_in _ (by omega)
    have g2 : IntKind.i64.wrap (3 * (0 : Int) + 1) = 3 * (0 : Int) + 1 := IntWalk.i64_in _ (by omega)
    have g3 : decide (3 * (0 : Int) + 1 < hn') = false := decide_eq_false (by omega)
    have g4 : ¬ (3 * (0 : Int) + 1 < hn') := by omega
    go_wp2
    clear b1 b4 g1 g2 g3 g4
    go_loopw [11] (fun i wr => i = .int .i64 0 ∧ wr = w5) (fun i _ => 0)
    case atStart => exact ⟨rfl, rfl⟩
    case round =>
      obtain ⟨rfl, rfl⟩ := hrel
      have CA := Kp.mk (fat_any m 0 wd hn' _ 0 la ha lc hc R wr HFI5.out (Nat.le_refl _))
      have b0 := HBX5.out.cell 0 rfl
      have b1 := HBX5.out.cell 1 rfl
      have b2 := HBX5.out.cell 2 rfl
      have b3 := HBX5.out.cell 3 rfl
      have b4 := HBX5.out.cell 4 rfl
      have b5 := HBX5.out.cell 5 rfl
      have CB := Kp.mk (CA.out.mono fun e w' ⟨_, h1, h2⟩ => (⟨h1 rfl, h2⟩ : _ ∧ _))
      clear CA
      go_wp2_with fail
      refine CB.out.mono ?_
      rintro e w6 ⟨rfl, hb6⟩
      have HBF := Kp.mk (HB5.out.trans (hb6.mono HB5.out.size))
      clear hb6 CB b0 b1 b2 b3 b4 b5
      go_wp2
      go_ret
      exact ⟨rfl, HBF.out⟩
  · have hz : (0 : Int) < n := by omega
    have hz3 : ((n - 1 : Nat) : Int) < n := by omega
    go_wp2_with fail
    refine (copied_n _ _ n _ _ HS1.out (by rw [List.length_map]; exact HRL.out) (by omega)).mono ?_
    rintro e w2 ⟨ca, cc, rfl, hcp, hb2⟩
    have HCP := Kp.mk hcp
    have HS2 := Kp.mk (HS1.out.below hb2)
    have HB2 := Kp.mk (HB1.out.trans (hb2.mono HB1.out.size))
    clear hcp hb2
    go_wp2_with fail
    refine (fmake_any ca cc _ n R w2 HCP.out HRL.out (by omega) hbd2 HRR.out HX.out).mono ?_
    rintro e w3 ⟨wd, hn', la, ha, lc, hc, rfl, HF, HB3⟩
    have k1 := (HF.out.hnb hbd2).1
    have hal := below_alloc (Nat.le_refl w3.heap.size) (.cells #[.int .i64 bd, .int .i64 n, .int .i64 wd, .slice la (wordsN n wd) lc, .int .i64 hn', .slice ha (bwN hn') hc] 44)
    have HBX := Kp.mk (Box.new w3 #[.int .i64 bd, .int .i64 n, .int .i64 wd, .slice la (wordsN n wd) lc, .int .i64 hn', .slice ha (bwN hn') hc] 44)
    have HFI := Kp.mk (show FanIn (w3.alloc (.cells #[.int .i64 bd, .int .i64 n, .int .i64 wd, .slice la (wordsN n wd) lc, .int .i64 hn', .slice ha (bwN hn') hc] 44)) w2.heap.size bd n wd hn' la ha lc hc R from ⟨HF.out.below hal, by omega, hbd2, HRR.out, HX.out⟩)
    have HB4 := Kp.mk (HB2.out.trans ((below_step HB3.out hal).mono HB2.out.size))
    have HS4 := Kp.mk (HS2.out.below (below_step HB3.out hal))
    obtain ⟨x, hx⟩ : ∃ x, x = w3.heap.size := ⟨_, rfl⟩
    clear hal HCP HS2 HB2 HB3 HF HB1 HS1
    go_upto_region 6 with (fail)
    rw [← hx] at HBX ⊢
    clear hx
    generalize w3.alloc (.cells #[.int .i64 bd, .int .i64 n, .int .i64 wd, .slice la (wordsN n wd) lc, .int .i64 hn', .slice ha (bwN hn') hc] 44) = w4 at *
    have b0 := HBX.out.cell 0 rfl
    have b1 := HBX.out.cell 1 rfl
    have b2 := HBX.out.cell 2 rfl
    have b3 := HBX.out.cell 3 rfl
    have b4 := HBX.out.cell 4 rfl
    have b5 := HBX.out.cell 5 rfl
    go_wp2_with fail
    refine (fmay_any bd n wd hn' _ la ha lc hc R w4 HFI.out).mono ?_
    rintro e w5 ⟨rfl, hb5⟩
    have HBX5 := Kp.mk (HBX.out.below hb5)
    have HFI5 := Kp.mk (HFI.out.below hb5)
    have HS5 := Kp.mk (HS4.out.below hb5)
    have HB5 := Kp.mk (HB4.out.trans (hb5.mono HB4.out.size))
    clear b0 b1 b2 b3 b4 b5 hb5 HBX HFI HS4 HB4
    have b1 := HBX5.out.cell 1 rfl
    have b4 := HBX5.out.cell 4 rfl
    have g1 : IntKind.i64.wrap (3 * (n : Int)) = 3 * (n : Int) := IntWalk.i64_in _ (by omega)
    have g2 : IntKind.i64.wrap (3 * (n : Int) + 1) = 3 * (n : Int) + 1 := IntWalk.i64_in _ (by omega)
    have g3 : decide (3 * (n : Int) + 1 < hn') = false := decide_eq_false (by omega)
    have g4 : ¬ (3 * (n : Int) + 1 < hn') := by omega
    go_wp2
    clear b1 b4 g1 g2 g3 g4
    go_loopw [11] (fun i wr => ∃ k : Nat, k ≤ n ∧ i = .int .i64 k ∧ Kp (Below w5.heap.size w5 wr)) (fun i _ => n - (intOf i).toNat)
    case atStart => exact ⟨0, Nat.zero_le _, rfl, ⟨Below.refl _ _⟩⟩
    case round =>
      obtain ⟨k, hk, rfl, HBR⟩ := hrel
      have HBX6 := Kp.mk (HBX5.out.below HBR.out)
      have CA := Kp.mk (fat_any bd n wd hn' _ k la ha lc hc R wr (HFI5.out.below HBR.out) hk)
      have b0 := HBX6.out.cell 0 rfl
      have b1 := HBX6.out.cell 1 rfl
      have b2 := HBX6.out.cell 2 rfl
      have b3 := HBX6.out.cell 3 rfl
      have b4 := HBX6.out.cell 4 rfl
      have b5 := HBX6.out.cell 5 rfl
      by_cases hlt : k < n
      · obtain ⟨b, off, e0, cx⟩ := (HS5.out.below HBR.out).at k (by rw [List.length_map, HRL.out]; exact hlt)
        have ee : (R.map Int.ofNat)[k]'(by rw [List.length_map, HRL.out]; exact hlt) = ((R.getD k 0 : Nat) : Int) := by
          rw [getD_at _ _ (by rw [HRL.out]; exact hlt)]; simp
        simp only [Option.some.injEq, Addr.mk.injEq, and_true] at e0
        obtain ⟨rfl, rfl⟩ := e0
        rw [ee] at cx
        have hltc := World.block_lt_of_cell? _ _ cx
        have CB := Kp.mk (CA.out.mono fun e w' ⟨h1, _, h2⟩ => (⟨h1 hlt, h2⟩ : _ ∧ _))
        generalize R.getD k 0 = v at *
        clear ee CA
        go_wp2_with fail
        refine CB.out.mono ?_
        rintro e w6 ⟨rfl, hb6⟩
        have HB6 := Kp.mk (HBR.out.trans (hb6.mono HBR.out.size))
        have cx6 := (hb6.cell (p := ⟨_, _, none⟩) hltc).trans cx
        clear hb6 cx CB b0 b1 b2 b3 b4 b5
        go_wp2
        go_roundw
        case rel => exact ⟨k + 1, by omega, by go_num, HB6⟩
        case measure => simp [intOf]; omega
      · obtain rfl : k = n := by omega
        have CB := Kp.mk (CA.out.mono fun e w' ⟨_, h1, h2⟩ => (⟨h1 rfl, h2⟩ : _ ∧ _))
        clear CA
        go_wp2_with fail
        refine CB.out.mono ?_
        rintro e w6 ⟨rfl, hb6⟩
        have HBF := Kp.mk (HB5.out.trans ((HBR.out.trans (hb6.mono HBR.out.size)).mono HB5.out.size))
        clear hb6 CB b0 b1 b2 b3 b4 b5
        go_wp2
        go_ret
        exact ⟨rfl, HBF.out⟩

end Go.Proofs.Ytjicgndahpffbaa

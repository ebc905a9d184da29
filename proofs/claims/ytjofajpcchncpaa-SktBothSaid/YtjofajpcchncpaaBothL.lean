/- The walk of SktBoth. -/
import Derived.Test.YtjofajpcchncpaaBoth
import Derived.Test.YtjofajpcchncpaaFenP
import Derived.Test.YtjofajpcchncpaaNum
namespace Go.Proofs.Ytjofajpcchncpaa
set_option linter.unusedVariables false
open Go.RowKit

theorem smake_n (a : Option Addr) (cap n R : Nat) (ks : List Nat) (w : World) (h : SlI w a cap (ks.map Int.ofNat)) (hn : Kp (ks.length = n)) (hl : n ≤ 300) (hR0 : 1 ≤ R) (hR : R ≤ 8) (hk : Kp (∀ i, i < n → ks.getD i 0 ≤ 1048576)) :
    Kp (Calls Try.prog 36 #[.int .i64 R, .slice a n cap] w (fun e w' => ∃ oa oc, e = .returned (.tuple #[.slice oa R oc, .int .i64 0]) ∧ RowsI w' oa R oc (skL ks R) ∧ Below w.heap.size w w')) :=
  ⟨smake_any a cap n R ks w h hn.out hl hR0 hR hk.out⟩

/-- All columns of a row together. -/
theorem row_sum (ks : List Nat) (r : Nat) : ∀ j, j ≤ ks.length → pre (skRow ks r j) 64 = (j : Int)
  | 0, _ => by
    have h : ∀ k, k ≤ 64 → pre (skRow ks r 0) k = 0 := by
      intro k
      induction k with
      | zero => intro _; exact pre_zero _
      | succ k ih =>
        intro hk
        rw [pre_succ _ k (by rw [skRow_length]; omega), ih (by omega), skRow_get, cntK_zero]
        rfl
    exact h 64 (Nat.le_refl _)
  | j + 1, h => by
    have hp := placeN_lt r (ks[j]'(by omega))
    have hpl : placeN r (ks[j]'(by omega)) < (skRow ks r j).length := by rw [skRow_length]; exact hp
    have e : skRow ks r (j + 1) = (skRow ks r j).set (placeN r (ks[j]'(by omega))) ((skRow ks r j)[placeN r (ks[j]'(by omega))] + 1) := by
      rw [skRow_succ ks r j (by omega), skRow_get]
    rw [e, pre_set _ _ _ hpl 64 (by rw [skRow_length]; exact Nat.le_refl _), row_sum ks r j (by omega), if_pos hp]
    push_cast; rfl

set_option maxRecDepth 100000 in
set_option maxHeartbeats 2000000 in
theorem walk_SktBoth (a0 : Option Addr) (len0 cap0 : Nat) (z0 : List Int) (a1 : Option Addr) (len1 cap1 : Nat) (z1 : List Int) (a2 : Int) (a3 : Int) (w : World) (w0 : IsRow .i64 w a0 len0 cap0 z0) (w1 : IsRow .i64 w a1 len1 cap1 z1) (w2 : (Lit.int .i64 a2).wf = true) (w3 : (Lit.int .i64 a3).wf = true) :
    Calls Try.prog 11 #[.slice a0 len0 cap0, .slice a1 len1 cap1, .int .i64 a2, .int .i64 a3] w fun e w' => e = .returned (.bool true) ∧ Below w.heap.size w w' := by
  obtain ⟨l0, rfl, hl0, wl0, nl0⟩ := row_sl w0
  obtain ⟨l1, rfl, hl1, wl1, nl1⟩ := row_sl w1
  obtain ⟨b1, b2⟩ := wf_bd w2
  obtain ⟨b3, b4⟩ := wf_bd w3
  unfold maxLen at nl0 nl1
  have HL0 := Kp.mk hl0
  have HL1 := Kp.mk hl1
  have WL0 := Kp.mk wl0
  have WL1 := Kp.mk wl1
  have hpb := pick_bd a2 8 (by omega)
  obtain ⟨m, hm⟩ : ∃ q : Nat, pick a2 8 = q := ⟨_, (Int.toNat_of_nonneg hpb.1).symm⟩
  obtain ⟨R, hR⟩ : ∃ R, R = m + 1 := ⟨_, rfl⟩
  have e1 : (1 : Int) + (m : Int) = (R : Int) := by omega
  have hR1 : 1 ≤ R := by omega
  have hR8 : R ≤ 8 := by omega
  have hm8 : m ≤ 8 := by omega
  have HM := Kp.mk hm
  clear w0 w1 w2 w3 hl0 hl1 wl0 wl1 hpb hm hR
  go_enter Try.func11, Try.ntmps11
  go_wp2_with fail
  refine (numbers_any a0 cap0 80 5000 l0 w HL0.out (by omega) (by omega) (by omega) (by omega) WL0.out).mono ?_
  rintro e wa ⟨sa, ca, rfl, hown, hbel⟩
  obtain ⟨ka, hL, hLL, hlt⟩ := nums_nat l0 80 5000 (by omega)
  have hna : (nums l0 80 5000).length ≤ 80 := by rw [nums_length]; omega
  have hS := hown.sl
  rw [hL] at hS
  generalize (nums l0 80 5000).length = na at *
  have HNA := Kp.mk hLL
  have HLA : Kp ((ka.map Int.ofNat).length = na) := ⟨by rw [List.length_map]; exact HNA.out⟩
  have HKA : Kp (∀ i, i < na → ka.getD i 0 ≤ 1048576) := ⟨fun i hi => by
    have := hlt i (by rw [HNA.out]; exact hi)
    omega⟩
  have HSA := Kp.mk hS
  have HB1 := Kp.mk hbel
  clear hL hLL hlt hS hown hbel
  go_wp2_with fail
  refine (numbers_any a1 cap1 80 5000 l1 wa (HL1.out.below HB1.out) (by omega) (by omega) (by omega) (by omega) WL1.out).mono ?_
  rintro e wb ⟨sb, cb, rfl, hown, hbel⟩
  obtain ⟨kb, hL, hLL, hlt⟩ := nums_nat l1 80 5000 (by omega)
  have hnb : (nums l1 80 5000).length ≤ 80 := by rw [nums_length]; omega
  have hS := hown.sl
  rw [hL] at hS
  generalize (nums l1 80 5000).length = nb at *
  have HNB := Kp.mk hLL
  have HLB : Kp ((kb.map Int.ofNat).length = nb) := ⟨by rw [List.length_map]; exact HNB.out⟩
  have HKB : Kp (∀ i, i < nb → kb.getD i 0 ≤ 1048576) := ⟨fun i hi => by
    have := hlt i (by rw [HNB.out]; exact hi)
    omega⟩
  have HSB := Kp.mk hS
  have HSA2 := Kp.mk (HSA.out.below hbel)
  have HB2 := Kp.mk (below_step HB1.out hbel)
  clear hL hLL hlt hS hown hbel HSA HB1
  go_wp2_with fail
  refine (picked_any a2 8 _ (by omega) (by omega) b1 b2).mono ?_
  rintro e w' ⟨rfl, rfl⟩
  rw [HM.out]
  go_wp2_with fail
  have HC := Kp.mk (copied_any sa ca (ka.map Int.ofNat) wb HSA2.out (by rw [HLA.out]; omega))
  rw [HLA.out] at HC
  refine HC.out.mono ?_
  rintro e wc ⟨sc, cc, rfl, hown, hbel⟩
  unfold OwnI at hown
  rw [HLA.out] at hown ⊢
  have HO := Kp.mk hown
  have HSBc := Kp.mk (HSB.out.below hbel)
  have HB3 := Kp.mk (below_step HB2.out hbel)
  have hszc : wb.heap.size ≤ wc.heap.size := hbel.size
  have HBC := Kp.mk hbel
  have hSB' : Kp (SlC wc sb nb cb 1 (ints (kb.map Int.ofNat))) := ⟨by have := HSBc.out; unfold SlI at this; rwa [HLB.out] at this⟩
  clear hown hbel HC e1
  go_wp2_with (at_builtin; refine wpList_cat tInts rfl _ _ rfl wb.heap.size _ _ _ _ rfl HO.out _ _ _ _ rfl hSB'.out (ints_one _) ?c1 (by decide) hszc ?c2)
  case c1 => omega
  case c2 =>
    intro sd cd wd hown hbel
    rw [← ints_append, ← List.map_append] at hown
    have hNN : Kp ((ka ++ kb).length = na + nb) := ⟨by rw [List.length_append, HNA.out, HNB.out]⟩
    have HKK : Kp (∀ i, (ka ++ kb).getD i 0 ≤ 1048576) := ⟨fun i => by
      by_cases hi : i < (ka ++ kb).length
      · rw [getD_at _ _ hi]
        rcases List.mem_append.1 (List.getElem_mem hi) with h | h
        · obtain ⟨q, hq, he⟩ := List.getElem_of_mem h
          have := HKA.out q (by rw [← HNA.out]; exact hq)
          rw [getD_at _ _ hq, he] at this; exact this
        · obtain ⟨q, hq, he⟩ := List.getElem_of_mem h
          have := HKB.out q (by rw [← HNB.out]; exact hq)
          rw [getD_at _ _ hq, he] at this; exact this
      · simp [List.getD, List.getElem?_eq_none (Nat.le_of_not_lt hi)]⟩
    have hADD := Kp.mk (addS_skL ka kb R)
    have hbcd := HBC.out.trans hbel
    have HSAd := Kp.mk (HSA2.out.below hbcd)
    have HSBd := Kp.mk (HSB.out.below hbcd)
    have HBd := Kp.mk (below_step HB2.out hbcd)
    have hNle : na + nb ≤ 160 := by omega
    generalize ka ++ kb = K at *
    generalize hNe : na + nb = N at *
    have HSD : Kp (SlI wd sd cd (K.map Int.ofNat)) := ⟨own_sl_len hown (by rw [List.length_map]; exact hNN.out)⟩
    clear hown hbel hbcd HO HSBc HB3 HBC hSB' HSB HSA2 hNe hszc
    go_wp2
    go_loopw [13, 14] (fun v i wr => ∃ (j : Nat) (so : Option Addr) (sc : Nat), j ≤ N ∧ i = .int .i64 j ∧ v = .slice so j sc ∧ wr.ownsRow wd.heap.size 3 1 (.slice so j sc) j (ints ((rotN K (pick a3 N).toNat j).map Int.ofNat)) ∧ Below wd.heap.size wd wr) (fun _ i _ => N - (intOf i).toNat)
    case atStart => exact ⟨0, none, 0, Nat.zero_le _, rfl, rfl, by rw [rotN_zero]; exact World.ownsRow_nil _ _ _ _, Below.refl _ _⟩
    case round =>
      obtain ⟨j, so, sc, hj, rfl, rfl, hown, hbel⟩ := hrel
      have HOJ := Kp.mk hown
      have HBJ := Kp.mk hbel
      have hszw : wd.heap.size ≤ wr.heap.size := hbel.size
      clear hown hbel
      by_cases hlt : j < N
      · have hpb := pick_bd a3 N (by omega)
        have hrs := Kp.mk (rotN_succ K (pick a3 N).toNat j)
        obtain ⟨t, ht⟩ : ∃ q : Nat, pick a3 N = q := ⟨_, (Int.toNat_of_nonneg hpb.1).symm⟩
        have htN : t < N := by omega
        have HT := Kp.mk ht
        rw [hNN.out] at hrs
        have hmod : (j + t) % N < N := Nat.mod_lt _ (by omega)
        obtain ⟨b, off, rfl, c1⟩ := (HSD.out.below HBJ.out).at ((j + t) % N) (by rw [List.length_map, hNN.out]; exact hmod)
        have e2 : (K.map Int.ofNat)[(j + t) % N]'(by rw [List.length_map, hNN.out]; exact hmod) = ((K.getD ((j + t) % N) 0 : Nat) : Int) := by
          rw [getD_at _ _ (by rw [hNN.out]; exact hmod)]; simp
        rw [e2] at c1
        have e3 : ((j : Int) + (t : Int)) % (N : Int) = (((j + t) % N : Nat) : Int) := by push_cast; rfl
        rw [ht, show ((t : Nat) : Int).toNat = t from rfl] at HOJ hrs
        generalize K.getD ((j + t) % N) 0 = v at *
        generalize (j + t) % N = q at *
        have hNi : ((N : Int) == 0) = false := beq_eq_false_iff_ne.2 (by omega)
        clear e2 hpb ht
        go_wp2_with fail
        refine (picked_any a3 N _ (by omega) (by omega) b3 b4).mono ?_
        rintro e w' ⟨rfl, rfl⟩
        rw [HT.out]
        go_wp2_with (at_builtin; refine wpList_push tInts rfl _ _ rfl wd.heap.size _ _ _ _ rfl HOJ.out 1 1 _ rfl rfl ?d1 (by decide) ?d2 (by decide) hszw ?d4)
        case d1 => simp [Value.oneCell']
        case d2 => omega
        case d4 =>
          intro so' sc' we hown' hbel'
          have HO' := Kp.mk hown'
          have HB' := Kp.mk (HBJ.out.trans hbel')
          clear hown' hbel' HOJ HBJ c1 e3
          go_wp2
          go_roundw
          case rel =>
            refine ⟨j + 1, so', sc', by omega, by go_num, rfl, ?_, HB'.out⟩
            rw [HT.out, show ((t : Nat) : Int).toNat = t from rfl, hrs.out, List.map_append, ints_append]
            exact HO'.out
          case measure => simp [intOf]; omega
      · obtain rfl : j = N := by omega
        have hsk : skL (rotN K (pick a3 (j : Int)).toNat j) R = skL K R := by
          by_cases h0 : j = 0
          · have hK : K = [] := List.length_eq_zero_iff.1 (by rw [hNN.out, h0])
            rw [h0, rotN_zero, hK]
          · have hp := pick_bd a3 j (by omega)
            have := rotN_perm K (pick a3 (j : Int)).toNat (by rw [hNN.out]; omega)
            rw [hNN.out] at this
            exact skL_perm this R
        have hol := rotN_length K (pick a3 (j : Int)).toNat j
        have hok : Kp (∀ i, i < j → (rotN K (pick a3 (j : Int)).toNat j).getD i 0 ≤ 1048576) := ⟨fun i hi => by
          rw [getD_at _ _ (by rw [hol]; exact hi)]
          unfold rotN
          simp only [List.getElem_map]
          exact HKK.out _⟩
        have HSK := Kp.mk hsk
        have HOL := Kp.mk hol
        generalize rotN K (pick a3 (j : Int)).toNat j = O at *
        have HSO := Kp.mk (own_sl_len HOJ.out (by rw [List.length_map]; exact HOL.out))
        have HSAw := Kp.mk (HSAd.out.below HBJ.out)
        have HSBw := Kp.mk (HSBd.out.below HBJ.out)
        have HBw := Kp.mk (below_step HBd.out HBJ.out)
        clear hsk hol HOJ HSAd HSBd HBd HBJ HSD
        go_wp2_with fail
        have C := smake_n sa ca na R ka wr HSAw.out HNA (by omega) hR1 hR8 HKA
        refine C.out.mono ?_
        rintro e wx ⟨sx, cx, rfl, hX, hb⟩
        have HX := Kp.mk hX
        have HBx := Kp.mk (below_step HBw.out hb)
        have HSBx := Kp.mk (HSBw.out.below hb)
        have HSOx := Kp.mk (HSO.out.below hb)
        clear hX hb C HBw HSBw HSO HSAw
        go_wp2_with fail
        have C := smake_n sb cb nb R kb wx HSBx.out HNB (by omega) hR1 hR8 HKB
        refine C.out.mono ?_
        rintro e wy ⟨sy, cy, rfl, hY, hb⟩
        have HY := Kp.mk hY
        have HXy := Kp.mk (HX.out.below hb)
        have HBy := Kp.mk (below_step HBx.out hb)
        have HSOy := Kp.mk (HSOx.out.below hb)
        clear hY hb C HBx HSBx HSOx HX
        go_wp2_with fail
        have C := smake_n so sc j R O wy HSOy.out HOL (by omega) hR1 hR8 hok
        rw [HSK.out] at C
        refine C.out.mono ?_
        rintro e wz ⟨sz, cz, rfl, hZ, hb⟩
        have HZ := Kp.mk hZ
        have HXz := Kp.mk (HXy.out.below hb)
        have HYz := Kp.mk (HY.out.below hb)
        have HBz := Kp.mk (below_step HBy.out hb)
        clear hZ hb C HBy HSOy HXy HY
        have C := Kp.mk (both_any sx sy cx cy R _ _ wz HXz.out HYz.out hR1 hR8 (skL_sketch ka R (by rw [HNA.out]; omega)) (skL_sketch kb R (by rw [HNB.out]; omega)) (by rw [hADD.out]; exact skL_sketch K R (by rw [hNN.out]; omega)))
        rw [hADD.out] at C
        go_wp2_with fail
        refine C.out.mono ?_
        rintro e ws ⟨ss, cs, rfl, hS, hb⟩
        have HS := Kp.mk hS
        have HZs := Kp.mk (HZ.out.below hb)
        have HBs := Kp.mk (below_step HBz.out hb)
        clear hS hb C HXz HYz HZ HBz
        go_wp2
        go_loopw [23] (fun i wr => ∃ r : Nat, r ≤ R ∧ i = .int .i64 r ∧ Below ws.heap.size ws wr) (fun i _ => R - (intOf i).toNat)
        case atStart => exact ⟨0, Nat.zero_le _, rfl, Below.refl _ _⟩
        case round =>
          obtain ⟨r, hr, rfl, hbel⟩ := hrel
          have HBr := Kp.mk hbel
          clear hbel
          by_cases hlt2 : r < R
          · obtain ⟨o1, f1, r1, q1, rfl, c1, hS1⟩ := (HS.out.below HBr.out).at r (by rw [skL_length]; exact hlt2)
            obtain ⟨o2, f2, r2, q2, rfl, c2, hS2⟩ := (HZs.out.below HBr.out).at r (by rw [skL_length]; exact hlt2)
            have e9 : (skL K R)[r]'(by rw [skL_length]; exact hlt2) = skRow K r j := by rw [skL_get, hNN.out]
            rw [e9] at hS1 hS2 c1 c2
            rw [skRow_length] at c1 c2
            have hsum := row_sum K r j (by rw [hNN.out]; exact Nat.le_refl _)
            have k1 := later_cell c1
            have k2 := later_cell c2
            have Q := Kp.mk (fun x : Later wr => sameInts_same r1 r2 q1 q2 64 _ _ x.val (hS1.below x.le) (hS2.below x.le) (skRow_length _ _ _) (skRow_length _ _ _) rfl (by omega))
            have HS1 := Kp.mk hS1
            have HSUM := Kp.mk hsum
            have HL64 := Kp.mk (skRow_length K r j)
            have HBD := Kp.mk (show ∀ c, c ≤ 64 → -20000 ≤ pre (skRow K r j) c ∧ pre (skRow K r j) c ≤ 20000 from fun c hc => by
              have h1 := pre_bd (skRow K r j) 160 (fun x hx => by
                obtain ⟨i, hi, rfl⟩ := List.getElem_of_mem hx
                rw [skRow_get]
                have := cntK_le K r i j
                omega) c (by rw [skRow_length]; exact hc) 0 (by omega)
              rw [pre_zero] at h1
              omega)
            have HXB := Kp.mk (show ∀ x ∈ skRow K r j, 0 ≤ x ∧ x ≤ 160 from fun x hx => by
              obtain ⟨i, hi, rfl⟩ := List.getElem_of_mem hx
              rw [skRow_get]
              have := cntK_le K r i j
              omega)
            clear hS1 hS2 hsum e9
            generalize skRow K r j = X at *
            have hri : (r : Int) < R := by omega
            clear c1 c2
            go_wp2
            refine region_later (by kernel_rfl) (by kernel_rfl) ?_
            repeat (quiet_step ((go_at_call 20; exact q_later (Q.out _))))
            refine wpQuiet_nil ?_
            rintro w' ⟨xl, rfl⟩
            have d1 := k1 xl
            have HS9 := Kp.mk (HS1.out.below xl.le)
            have HB9 := Kp.mk (below_step HBr.out xl.le)
            clear k1 k2 Q
            go_wp2
            go_loop [24, 25] (fun s i => ∃ c : Nat, c ≤ 64 ∧ i = .int .i64 c ∧ s = .int .i64 (pre X c)) (fun _ i => 64 - (intOf i).toNat)
            case atStart => exact ⟨0, Nat.zero_le _, rfl, by rw [pre_zero]⟩
            case round =>
              obtain ⟨c, hc, rfl, rfl⟩ := hrel
              have hpc := HBD.out c hc
              by_cases hlt3 : c < 64
              · have hcX : c < X.length := by rw [HL64.out]; exact hlt3
                obtain ⟨b5, f5, rfl, c5⟩ := HS9.out.at c hcX
                have hxv := HXB.out _ (List.getElem_mem hcX)
                have hps := Kp.mk (pre_succ X c hcX)
                generalize X[c] = v at *
                generalize pre X c = u at *
                have hci : (c : Int) < 64 := by omega
                go_wp2
                go_round
                case rel => exact ⟨c + 1, by omega, by go_num, by rw [hps.out]⟩
                case measure => simp [intOf]; omega
              · obtain rfl : c = 64 := by omega
                rw [HSUM.out]
                have t9 : ((j : Int) == j) = true := by simp
                go_wp2
                go_roundw
                case rel => exact ⟨r + 1, by omega, by go_num, HB9.out⟩
                case measure => simp [intOf]; omega
          · go_wp2
            go_ret
            exact ⟨rfl, below_step HBs.out HBr.out⟩

end Go.Proofs.Ytjofajpcchncpaa

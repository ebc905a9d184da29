/- The walk of PermCounted. -/
import Derived.Test.YtjofajpcchncpaaOrd
namespace Go.Proofs.Ytjofajpcchncpaa
set_option linter.unusedVariables false
open Go.RowKit

theorem number_n (a : Option Addr) (cap n : Nat) (p : List Int) (w : World) (F : Kp (SlI w a cap p)) (hn : Kp (p.length = n)) (hl : n ≤ 12) (hp : Kp (Order p)) :
    Kp (Calls Try.prog 17 #[.slice a n cap] w (fun e w' => e = .returned (.tuple #[.int .i64 (numL p n : Nat), .int .i64 0]) ∧ Below w.heap.size w w')) :=
  ⟨number_any a cap n p w F.out hn.out hl hp.out⟩

set_option maxRecDepth 100000 in
set_option maxHeartbeats 2000000 in
theorem walk_PermCounted (a0 : Option Addr) (len0 cap0 : Nat) (z0 : List Int) (a1 : Option Addr) (len1 cap1 : Nat) (z1 : List Int) (a2 : Int) (a3 : Int) (w : World) (w0 : IsRow .i64 w a0 len0 cap0 z0) (w1 : IsRow .i64 w a1 len1 cap1 z1) (w2 : (Lit.int .i64 a2).wf = true) (w3 : (Lit.int .i64 a3).wf = true) :
    Calls Try.prog 3 #[.slice a0 len0 cap0, .slice a1 len1 cap1, .int .i64 a2, .int .i64 a3] w fun e w' => e = .returned (.bool true) ∧ Below w.heap.size w w' := by
  obtain ⟨l0, rfl, hl0, wl0, nl0⟩ := row_sl w0
  obtain ⟨l1, rfl, hl1, wl1, nl1⟩ := row_sl w1
  obtain ⟨b1, b2⟩ := wf_bd w2
  obtain ⟨b3, b4⟩ := wf_bd w3
  unfold maxLen at nl0 nl1
  have HL0 := Kp.mk hl0
  have HL1 := Kp.mk hl1
  have WL0 := Kp.mk wl0
  have WL1 := Kp.mk wl1
  have hpb := pick_bd a2 12 (by omega)
  obtain ⟨m, hm⟩ : ∃ q : Nat, pick a2 12 = q := ⟨_, (Int.toNat_of_nonneg hpb.1).symm⟩
  obtain ⟨n, hn⟩ : ∃ n, n = m + 1 := ⟨_, rfl⟩
  have hn0 : 0 < n := by omega
  have hn12 : n ≤ 12 := by omega
  have HM := Kp.mk hm
  have e1 : (1 : Int) + (m : Int) = (n : Int) := by omega
  have hm11 : m ≤ 11 := by omega
  have HE1 := Kp.mk e1
  clear w0 w1 w2 w3 hl0 hl1 wl0 wl1 hpb hm hn
  go_enter Try.func3, Try.ntmps3
  go_wp2_with fail
  refine (picked_any a2 12 _ (by omega) (by omega) b1 b2).mono ?_
  rintro e w' ⟨rfl, rfl⟩
  rw [HM.out]
  go_wp2_with fail
  clear e1
  refine (shuffle_n a0 cap0 n l0 _ HL0.out (by omega) (by omega) WL0.out).mono ?_
  rintro e wa ⟨sp, cp, rfl, hS, hb⟩
  have HP := Kp.mk (shuf_order l0 n n (Nat.le_refl _))
  have HPL := Kp.mk (shuf_length l0 n n)
  generalize shuf l0 n n = p at *
  have F1 := (Facts.nil wa).cons hS
  have HB1 := Kp.mk hb
  clear hS hb
  go_wp2_with fail
  refine (shuffle_n a1 cap1 n l1 _ (HL1.out.below HB1.out) (by omega) (by omega) WL1.out).mono ?_
  rintro e wb ⟨sq, cq, rfl, hS, hb⟩
  have HQ := Kp.mk (shuf_order l1 n n (Nat.le_refl _))
  have HQL := Kp.mk (shuf_length l1 n n)
  generalize shuf l1 n n = q at *
  have F2 := (F1.below hb).cons hS
  have HB2 := Kp.mk (below_step HB1.out hb)
  clear hS hb HB1 F1
  go_wp2_with fail
  refine (copied_n sp cp n p _ (F2.get 1 rfl) HPL.out (by omega)).mono ?_
  rintro e wc ⟨s1, c1, rfl, hS, hb⟩
  have F3 := (F2.below hb).cons hS
  have HB3 := Kp.mk (below_step HB2.out hb)
  clear hS hb HB2 F2
  go_wp2_with fail
  have C := number_n s1 c1 n p wc ⟨F3.get 0 rfl⟩ HPL hn12 HP
  refine C.out.mono ?_
  rintro e wd ⟨rfl, hb⟩
  have F4 := F3.below hb
  have HB4 := Kp.mk (below_step HB3.out hb)
  clear hb HB3 F3 C
  go_wp2_with fail
  refine (copied_n sq cq n q _ (F4.get 1 rfl) HQL.out (by omega)).mono ?_
  rintro e we ⟨s2, c2, rfl, hS, hb⟩
  have F5 := (F4.below hb).cons hS
  have HB5 := Kp.mk (below_step HB4.out hb)
  clear hS hb HB4 F4
  go_wp2_with fail
  have C := number_n s2 c2 n q we ⟨F5.get 0 rfl⟩ HQL hn12 HQ
  refine C.out.mono ?_
  rintro e wf ⟨rfl, hb⟩
  have F6 := F5.below hb
  have HB6 := Kp.mk (below_step HB5.out hb)
  clear hb HB5 F5 C
  have hna := num_bd p n (by rw [HPL.out]; exact Nat.le_refl _) (by rw [HPL.out]; exact hn12)
  have hnb := num_bd q n (by rw [HQL.out]; exact Nat.le_refl _) (by rw [HQL.out]; exact hn12)
  have hlt1 := numL_lt p
  rw [HPL.out] at hlt1
  have hr0 := restN_zero n _ hlt1
  have hback := ordL_back HP.out
  rw [HPL.out] at hback
  have HBK := Kp.mk hback
  have HPARTS : Kp (∀ i, (∀ j, j < i → p[j]? = q[j]?) → ∀ (hi : i < p.length) (hi2 : i < q.length), p[i] ≠ q[i] → decide (p[i] < q[i]) = decide (numL p n < numL q n)) := ⟨fun i hs hi hi2 hne => by
    have := num_parts HP.out HQ.out (by rw [HPL.out, HQL.out]) i hs hi hi2 hne
    rw [show numL p p.length = numL p n by rw [HPL.out], show numL q q.length = numL q n by rw [HQL.out]] at this
    exact this⟩
  have C := Kp.mk (order_any n (numL p n) wf hn0 hn12 hna hr0)
  rw [HBK.out] at C
  clear hback hr0 hlt1 HBK
  generalize numL p n = na at *
  generalize numL q n = nb at *
  go_wp2_with fail
  refine C.out.mono ?_
  rintro e wg ⟨s3, c3, rfl, hO, hb⟩
  have F7 := Facts.cons (own_sl_len hO HPL.out) (F6.below hb)
  have HB7 := Kp.mk (below_step HB6.out hb)
  clear hO hb HB6 F6 C
  have Q := Kp.mk (sameInts_same s3 sp c3 cp n p p wg (F7.get 0 rfl) (F7.get 4 rfl) HPL.out HPL.out rfl (by omega))
  have F7' := Kp.mk F7
  clear F7
  go_wp2_with fail
  refine Q.out.mono ?_
  rintro e wh ⟨rfl, hb⟩
  have F8 := Kp.mk (F7'.out.below hb)
  have HB8 := Kp.mk (below_step HB7.out hb)
  clear hb HB7 F7' Q
  go_wp2
  go_loopw [18] (fun i wr => ∃ j : Nat, j ≤ n ∧ i = .int .i64 j ∧ Kp (∀ r, r < j → p[r]? = q[r]?) ∧ Below wh.heap.size wh wr) (fun i _ => n - (intOf i).toNat)
  case atStart => exact ⟨0, Nat.zero_le _, rfl, ⟨fun r hr => by omega⟩, Below.refl _ _⟩
  case round =>
    obtain ⟨j, hj, rfl, HS, hbel⟩ := hrel
    have HBE := Kp.mk hbel
    clear hbel
    have hpn : p.length = n := HPL.out
    have hqn : q.length = n := HQL.out
    by_cases hlt : j < n
    · have hjp : j < p.length := by omega
      have hjq : j < q.length := by omega
      obtain ⟨b, off, rfl, c1⟩ := (SlI.below (F8.out.get 4 rfl : SlI wh sp cp p) HBE.out).at j hjp
      obtain ⟨b', off', rfl, c2⟩ := (SlI.below (F8.out.get 3 rfl : SlI wh sq cq q) HBE.out).at j hjq
      have hi1 : (j : Int) < n := by omega
      by_cases hxy : p[j] = q[j]
      · have hse : Kp (p[j]? = q[j]?) := ⟨by rw [List.getElem?_eq_getElem hjp, List.getElem?_eq_getElem hjq, hxy]⟩
        rw [hxy] at c1
        generalize q[j] = y at *
        have t1 : (y == y) = true := by simp
        clear hxy hpn hqn
        go_wp2
        go_quiet (fail)
        go_wp2
        go_roundw
        case rel =>
          refine ⟨j + 1, by omega, by go_num, ⟨fun r hr => ?_⟩, below_drewN HBE.out nq⟩
          by_cases hrj : r = j
          · subst hrj; exact hse.out
          · exact HS.out r (by omega)
        case measure => simp [intOf]; omega
      · have hpa := HPARTS.out j HS.out hjp hjq hxy
        have t1 : (p[j] == q[j]) = false := by simpa using hxy
        clear hpn hqn hxy
        generalize p[j] = x at *
        generalize q[j] = y at *
        go_wp2
        go_quiet (fail)
        have c1' : (wr.drewN nq).cell? ⟨b, off + j, none⟩ = some (.int .i64 x) := c1
        have c2' : (wr.drewN nq).cell? ⟨b', off' + j, none⟩ = some (.int .i64 y) := c2
        have HBq := Kp.mk (below_drewN HBE.out nq)
        clear c1 c2 HBE
        go_wp2
        generalize wr.drewN nq = wr2 at *
        by_cases hxy3 : x < y
        · have hab : na < nb := by rw [decide_eq_true hxy3] at hpa; exact of_decide_eq_true hpa.symm
          clear hpa
          go_quiet (fail)
          have HBq2 := Kp.mk (below_drewN HBq.out nq)
          clear c1' c2' HBq HS
          clear HPARTS F8 HP HQ
          go_wp2
          have hfn := fac_bd n hn12
          go_loop [19, 20] (fun v i => ∃ j : Nat, 1 ≤ j ∧ j ≤ n ∧ i = .int .i64 ((j : Int) + 1) ∧ v = .int .i64 (facN j : Nat)) (fun _ i => n + 1 - (intOf i).toNat)
          case atStart => exact ⟨1, Nat.le_refl _, hn0, rfl, by rw [facN_one]; rfl⟩
          case round =>
            obtain ⟨j, hj1, hjn, rfl, rfl⟩ := hrel
            have hmo := fac_mono j n hjn
            by_cases hlt2 : j < n
            · have hsu := facN_succ j
              have hmo2 := fac_mono (j + 1) n hlt2
              have e5 : (facN j : Int) * ((j : Int) + 1) = ((facN (j + 1) : Nat) : Int) := by rw [hsu, Nat.mul_comm]; push_cast; rfl
              generalize hfe : facN (j + 1) = f1 at *
              generalize facN j = f0 at *
              have HFE := Kp.mk hfe
              clear hsu hfe
              go_wp2
              go_round
              case rel => exact ⟨j + 1, by omega, by omega, by go_num, by rw [HFE.out]⟩
              case measure => simp [intOf]; omega
            · obtain rfl : j = n := by omega
              have hfp := facN_pos j
              have HRF := Kp.mk (restN_fac j)
              have HRZ := Kp.mk (fun x hx => restN_zero j x hx)
              have HNO := Kp.mk (fun x hx => num_ordL j x hx)
              generalize facN j = f at *
              have hpb := pick_bd a3 f (by omega)
              obtain ⟨X, hX⟩ : ∃ X : Nat, pick a3 f = X := ⟨_, (Int.toNat_of_nonneg hpb.1).symm⟩
              have hXf : X < f := by omega
              have HX := Kp.mk hX
              clear hpb hX
              go_wp2_with fail
              refine (picked_any a3 f _ (by omega) (by omega) b3 b4).mono ?_
              rintro e w' ⟨rfl, rfl⟩
              rw [HX.out]
              go_wp2_with fail
              refine (order_any j X _ hn0 hn12 (by omega) (HRZ.out X hXf)).mono ?_
              rintro e wi ⟨s4, c4, rfl, hO, hb⟩
              have hOL : Kp ((ordL j X).length = j) := ⟨ordL_length j X⟩
              have HS := Kp.mk (own_sl_len hO hOL.out)
              have HB9 := Kp.mk (below_step (below_step HB8.out HBq2.out) hb)
              have HOO := Kp.mk (ordL_order j X)
              have hno := HNO.out X hXf
              clear hO hb
              go_wp2_with fail
              refine (copied_n s4 c4 j _ _ HS.out hOL.out (by omega)).mono ?_
              rintro e wj ⟨s5, c5, rfl, hS5, hb⟩
              have HB10 := Kp.mk (below_step HB9.out hb)
              clear hb HB9
              go_wp2_with fail
              have C := number_n s5 c5 j (ordL j X) wj ⟨hS5⟩ hOL hn12 HOO
              rw [hno] at C
              clear hno hS5
              refine C.out.mono ?_
              rintro e wk ⟨rfl, hb⟩
              have HB11 := Kp.mk (below_step HB10.out hb)
              clear hb HB10 C
              go_wp2_with fail
              refine (order_bad j f wk hn0 hn12 (by omega) HRF.out).mono ?_
              rintro e wl ⟨rfl, hb⟩
              have HB12 := Kp.mk (below_step HB11.out hb)
              clear hb HB11
              go_wp2_with fail
              refine (picked_any a3 f _ (by omega) (by omega) b3 b4).mono ?_
              rintro e w' ⟨rfl, rfl⟩
              rw [HX.out]
              have t9 : ((X : Int) == X) = true := by simp
              go_wp2
              go_ret
              exact ⟨rfl, HB12.out⟩
        · have hab : ¬ na < nb := by rw [decide_eq_false hxy3] at hpa; exact of_decide_eq_false hpa.symm
          clear hpa
          go_quiet (fail)
          have HBq2 := Kp.mk (below_drewN HBq.out nq)
          clear c1' c2' HBq HS
          clear HPARTS F8 HP HQ
          go_wp2
          have hfn := fac_bd n hn12
          go_loop [19, 20] (fun v i => ∃ j : Nat, 1 ≤ j ∧ j ≤ n ∧ i = .int .i64 ((j : Int) + 1) ∧ v = .int .i64 (facN j : Nat)) (fun _ i => n + 1 - (intOf i).toNat)
          case atStart => exact ⟨1, Nat.le_refl _, hn0, rfl, by rw [facN_one]; rfl⟩
          case round =>
            obtain ⟨j, hj1, hjn, rfl, rfl⟩ := hrel
            have hmo := fac_mono j n hjn
            by_cases hlt2 : j < n
            · have hsu := facN_succ j
              have hmo2 := fac_mono (j + 1) n hlt2
              have e5 : (facN j : Int) * ((j : Int) + 1) = ((facN (j + 1) : Nat) : Int) := by rw [hsu, Nat.mul_comm]; push_cast; rfl
              generalize hfe : facN (j + 1) = f1 at *
              generalize facN j = f0 at *
              have HFE := Kp.mk hfe
              clear hsu hfe
              go_wp2
              go_round
              case rel => exact ⟨j + 1, by omega, by omega, by go_num, by rw [HFE.out]⟩
              case measure => simp [intOf]; omega
            · obtain rfl : j = n := by omega
              have hfp := facN_pos j
              have HRF := Kp.mk (restN_fac j)
              have HRZ := Kp.mk (fun x hx => restN_zero j x hx)
              have HNO := Kp.mk (fun x hx => num_ordL j x hx)
              generalize facN j = f at *
              have hpb := pick_bd a3 f (by omega)
              obtain ⟨X, hX⟩ : ∃ X : Nat, pick a3 f = X := ⟨_, (Int.toNat_of_nonneg hpb.1).symm⟩
              have hXf : X < f := by omega
              have HX := Kp.mk hX
              clear hpb hX
              go_wp2_with fail
              refine (picked_any a3 f _ (by omega) (by omega) b3 b4).mono ?_
              rintro e w' ⟨rfl, rfl⟩
              rw [HX.out]
              go_wp2_with fail
              refine (order_any j X _ hn0 hn12 (by omega) (HRZ.out X hXf)).mono ?_
              rintro e wi ⟨s4, c4, rfl, hO, hb⟩
              have hOL : Kp ((ordL j X).length = j) := ⟨ordL_length j X⟩
              have HS := Kp.mk (own_sl_len hO hOL.out)
              have HB9 := Kp.mk (below_step (below_step HB8.out HBq2.out) hb)
              have HOO := Kp.mk (ordL_order j X)
              have hno := HNO.out X hXf
              clear hO hb
              go_wp2_with fail
              refine (copied_n s4 c4 j _ _ HS.out hOL.out (by omega)).mono ?_
              rintro e wj ⟨s5, c5, rfl, hS5, hb⟩
              have HB10 := Kp.mk (below_step HB9.out hb)
              clear hb HB9
              go_wp2_with fail
              have C := number_n s5 c5 j (ordL j X) wj ⟨hS5⟩ hOL hn12 HOO
              rw [hno] at C
              clear hno hS5
              refine C.out.mono ?_
              rintro e wk ⟨rfl, hb⟩
              have HB11 := Kp.mk (below_step HB10.out hb)
              clear hb HB10 C
              go_wp2_with fail
              refine (order_bad j f wk hn0 hn12 (by omega) HRF.out).mono ?_
              rintro e wl ⟨rfl, hb⟩
              have HB12 := Kp.mk (below_step HB11.out hb)
              clear hb HB11
              go_wp2_with fail
              refine (picked_any a3 f _ (by omega) (by omega) b3 b4).mono ?_
              rintro e w' ⟨rfl, rfl⟩
              rw [HX.out]
              have t9 : ((X : Int) == X) = true := by simp
              go_wp2
              go_ret
              exact ⟨rfl, HB12.out⟩
    · clear hpn hqn HS
      · clear HPARTS F8 HP HQ
        go_wp2
        have hfn := fac_bd n hn12
        go_loop [19, 20] (fun v i => ∃ j : Nat, 1 ≤ j ∧ j ≤ n ∧ i = .int .i64 ((j : Int) + 1) ∧ v = .int .i64 (facN j : Nat)) (fun _ i => n + 1 - (intOf i).toNat)
        case atStart => exact ⟨1, Nat.le_refl _, hn0, rfl, by rw [facN_one]; rfl⟩
        case round =>
          obtain ⟨j, hj1, hjn, rfl, rfl⟩ := hrel
          have hmo := fac_mono j n hjn
          by_cases hlt2 : j < n
          · have hsu := facN_succ j
            have hmo2 := fac_mono (j + 1) n hlt2
            have e5 : (facN j : Int) * ((j : Int) + 1) = ((facN (j + 1) : Nat) : Int) := by rw [hsu, Nat.mul_comm]; push_cast; rfl
            generalize hfe : facN (j + 1) = f1 at *
            generalize facN j = f0 at *
            have HFE := Kp.mk hfe
            clear hsu hfe
            go_wp2
            go_round
            case rel => exact ⟨j + 1, by omega, by omega, by go_num, by rw [HFE.out]⟩
            case measure => simp [intOf]; omega
          · obtain rfl : j = n := by omega
            have hfp := facN_pos j
            have HRF := Kp.mk (restN_fac j)
            have HRZ := Kp.mk (fun x hx => restN_zero j x hx)
            have HNO := Kp.mk (fun x hx => num_ordL j x hx)
            generalize facN j = f at *
            have hpb := pick_bd a3 f (by omega)
            obtain ⟨X, hX⟩ : ∃ X : Nat, pick a3 f = X := ⟨_, (Int.toNat_of_nonneg hpb.1).symm⟩
            have hXf : X < f := by omega
            have HX := Kp.mk hX
            clear hpb hX
            go_wp2_with fail
            refine (picked_any a3 f _ (by omega) (by omega) b3 b4).mono ?_
            rintro e w' ⟨rfl, rfl⟩
            rw [HX.out]
            go_wp2_with fail
            refine (order_any j X _ hn0 hn12 (by omega) (HRZ.out X hXf)).mono ?_
            rintro e wi ⟨s4, c4, rfl, hO, hb⟩
            have hOL : Kp ((ordL j X).length = j) := ⟨ordL_length j X⟩
            have HS := Kp.mk (own_sl_len hO hOL.out)
            have HB9 := Kp.mk (below_step (below_step HB8.out HBE.out) hb)
            have HOO := Kp.mk (ordL_order j X)
            have hno := HNO.out X hXf
            clear hO hb
            go_wp2_with fail
            refine (copied_n s4 c4 j _ _ HS.out hOL.out (by omega)).mono ?_
            rintro e wj ⟨s5, c5, rfl, hS5, hb⟩
            have HB10 := Kp.mk (below_step HB9.out hb)
            clear hb HB9
            go_wp2_with fail
            have C := number_n s5 c5 j (ordL j X) wj ⟨hS5⟩ hOL hn12 HOO
            rw [hno] at C
            clear hno hS5
            refine C.out.mono ?_
            rintro e wk ⟨rfl, hb⟩
            have HB11 := Kp.mk (below_step HB10.out hb)
            clear hb HB10 C
            go_wp2_with fail
            refine (order_bad j f wk hn0 hn12 (by omega) HRF.out).mono ?_
            rintro e wl ⟨rfl, hb⟩
            have HB12 := Kp.mk (below_step HB11.out hb)
            clear hb HB11
            go_wp2_with fail
            refine (picked_any a3 f _ (by omega) (by omega) b3 b4).mono ?_
            rintro e w' ⟨rfl, rfl⟩
            rw [HX.out]
            have t9 : ((X : Int) == X) = true := by simp
            go_wp2
            go_ret
            exact ⟨rfl, HB12.out⟩

end Go.Proofs.Ytjofajpcchncpaa

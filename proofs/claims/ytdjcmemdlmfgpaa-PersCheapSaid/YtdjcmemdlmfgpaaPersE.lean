/- PersCheap: the walk. -/
import Derived.Test.YtdjcmemdlmfgpaaPersK
import Derived.Test.YtdjcmemdlmfgpaaPersO
import Derived.Test.YtdjcmemdlmfgpaaCopd
import Derived.Test.YtdjcmemdlmfgpaaStep
namespace Go.Proofs.Ytdjcmemdlmfgpaa
set_option linter.unusedVariables false
open Go.RowKit

theorem pow_cases {d : Nat} (h1 : 1 ≤ d) (h2 : d ≤ 8) : d = 1 ∨ d = 2 ∨ d = 3 ∨ d = 4 ∨ d = 5 ∨ d = 6 ∨ d = 7 ∨ d = 8 := by omega

theorem wrap_pow {d : Nat} (h1 : 1 ≤ d) (h2 : d ≤ 8) : wrap64 ((2 : Int) ^ min (d - 1) 64) = ((2 ^ (d - 1) : Nat) : Int) := by
  rcases pow_cases h1 h2 with rfl | rfl | rfl | rfl | rfl | rfl | rfl | rfl <;> kernel_rfl

attribute [local irreducible] verT
set_option maxRecDepth 100000 in
set_option maxHeartbeats 8000000 in
theorem walk_PersCheap (a0 : Option Addr) (len0 cap0 : Nat) (z0 : List Int) (a1 : Option Addr) (len1 cap1 : Nat) (z1 : List Int) (w : World) (w0 : IsRow .i64 w a0 len0 cap0 z0) (w1 : IsFlat 4 w a1 len1 cap1 z1) :
    Calls Try.prog 3 #[.slice a0 len0 cap0, .slice a1 len1 cap1] w fun e w' => e = .returned (.bool true) ∧ Below w.heap.size w w' := by
  obtain ⟨l, rfl, hl, wl, nl⟩ := row_sl w0
  obtain ⟨L, hL, wL, nL⟩ := works_in w1
  unfold maxLen at nl nL
  have HL := Kp.mk hl
  have WL := Kp.mk wl
  have HWK := Kp.mk hL
  have WWK := Kp.mk wL
  obtain ⟨n, hn⟩ : ∃ n, n = (sgn l 100 500).length := ⟨_, rfl⟩
  have hn40 : n ≤ 100 := by rw [hn, sgn_length]; omega
  have HM := Kp.mk hn
  clear w0 w1 hl wl hL wL hn
  go_enter Try.func3, Try.ntmps3
  go_wp2_with fail
  refine (signed_any a0 cap0 100 500 l w HL.out (by omega) (by omega) (by omega) (by omega) WL.out).mono ?_
  rintro e w1 ⟨na, nc, rfl, hO, hb⟩
  unfold OwnI at hO
  rw [← HM.out] at hO ⊢
  have HO := Kp.mk hO
  have HB := Kp.mk hb
  have hsz := Kp.mk hb.size
  clear hO hb
  go_wp2_with (at_builtin; refine wpList_push tInts rfl _ _ rfl w.heap.size na n nc _ rfl HO.out 1 1 _ rfl rfl ?d1 (by decide) ?d2 (by decide) hsz.out ?d4)
  case d1 => simp [Value.oneCell']
  case d2 => omega
  case d4 =>
    intro sa sc w2 hown hbel
    have hb2 := HB.out.trans hbel
    have HNL := Kp.mk (show (sgn l 100 500 ++ [3]).length = n + 1 by rw [List.length_append, ← HM.out]; rfl)
    have HN := Kp.mk (show SlI w2 sa sc (sgn l 100 500 ++ [3]) from own_sl_len (by rw [ints_append]; exact hown) HNL.out)
    have HB2 := Kp.mk hb2
    have HWK2 := Kp.mk (HWK.out.below hb2)
    clear hown hbel HO HM hsz HB HL HWK hb2
    generalize sgn l 100 500 ++ [3] = N at *
    go_wp2_with fail
    refine (changes_any a1 cap1 len1 40 (n + 1) L w2 HWK2.out (by omega) (by omega) (by omega) (by omega) WWK.out).mono ?_
    rintro e w3 ⟨oa, oc, m, rfl, HCL, HCO, hb3⟩
    have HOK := Kp.mk (chsOf_ok L 40 (n + 1) (by omega))
    have hm30 : m ≤ 40 := by rw [← HCL.out, chsOf_length]; omega
    have HB3 := Kp.mk (HB2.out.trans (hb3.mono HB2.out.size))
    have HN3 := Kp.mk (HN.out.below hb3)
    have HCS := Kp.mk (show SlF chL 5 w3 oa m oc (chsOf L 40 (n + 1)) from own_slc HCO.out)
    clear hb3 HCO HB2 HN HWK2
    generalize chsOf L 40 (n + 1) = cs at *
    go_wp2_with fail
    refine (copied_n _ _ _ _ _ HN3.out HNL.out (by omega)).mono ?_
    rintro e w4 ⟨c1, d1, rfl, h1, hb1⟩
    have HB4 := Kp.mk (below_step HB3.out hb1)
    have HN4 := Kp.mk (HN3.out.below hb1)
    have HC4 := Kp.mk (HCS.out.below hb1)
    have H1 := Kp.mk (show SlC w4 c1 (n + 1) d1 1 (ints N) from by have := h1; unfold SlI at this; rw [HNL.out] at this; exact this)
    clear h1 hb1 HN3 HCS HB3
    have HF := Kp.mk (ver_first N cs (by rw [HNL.out]; omega))
    have CS0 := Kp.mk (shared_any c1 none d1 0 (n + 1) 0 N [] w4 H1.out HNL.out (by unfold SlF flat; exact ⟨rfl, Nat.le_refl _, Nat.zero_le _, fun _ => rfl, fun i hi => by simp at hi⟩) (by omega) (by omega) (by omega) (fun j h => by simp at h))
    have HF0 := Kp.mk (show (verT N [] 0).2 = 2 * (n + 1) - 1 from by have := ver_first N [] (by rw [HNL.out]; omega); rw [HNL.out] at this; exact this)
    rw [HNL.out] at HF
    rw [HF0.out] at CS0
    have HZ := Kp.mk (show ((2 * (n + 1) - 1 : Nat) : Int) = 2 * (n : Int) + 1 by omega)
    rw [HZ.out] at CS0
    go_wp2_with fail
    refine CS0.out.mono ?_
    rintro e w5 ⟨rfl, HB5⟩
    have HBW := Kp.mk (below_step HB4.out HB5.out)
    have HN5 := Kp.mk (HN4.out.below HB5.out)
    have HC5 := Kp.mk (HC4.out.below HB5.out)
    have e1 : IntKind.i64.wrap (2 * ((n : Int) + 1)) = 2 * ((n : Int) + 1) := IntWalk.i64_in _ (by omega)
    have e2 : IntKind.i64.wrap (2 * ((n : Int) + 1) - 1) = 2 * (n : Int) + 1 := by rw [show 2 * ((n : Int) + 1) - 1 = 2 * (n : Int) + 1 by omega]; exact IntWalk.i64_in _ (by omega)
    clear HB4 HN4 HC4 HB5 CS0 H1 HF0 HZ
    go_wp2
    go_loopw [9] (fun v wr => ∃ d : Nat, 1 ≤ d ∧ d ≤ 8 ∧ v = .int .i64 d ∧ Kp (wr = w5)) (fun v _ => 8 - (intOf v).toNat)
    case atStart => exact ⟨1, by omega, by omega, rfl, ⟨rfl⟩⟩
    case round =>
      obtain ⟨d, hd1, hd8, rfl, HWE⟩ := hrel
      obtain rfl := HWE.out
      have hor : ((2 ^ (d - 1) < n + 1) ∧ d < 8 ∧ Kp (n + 1 ≤ n + 1)) ∨ (¬ (2 ^ (d - 1) < n + 1) ∧ Kp (n + 1 ≤ 2 ^ (d - 1))) := by
        by_cases h : 2 ^ (d - 1) < n + 1
        · refine .inl ⟨h, ?_, ⟨Nat.le_refl _⟩⟩
          by_cases h8 : d = 8
          · subst h8; simp at h; omega
          · omega
        · exact .inr ⟨h, ⟨by omega⟩⟩
      rcases hor with ⟨hlt, hd, _⟩ | ⟨hge, HGE⟩
      · clear HWE
        have k1 : IntKind.i64.wrap ((d : Int) - 1) = ((d - 1 : Nat) : Int) := by rw [show (d : Int) - 1 = ((d - 1 : Nat) : Int) by omega]; exact IntWalk.i64_in _ (by omega)
        have k2 : wrap64 ((2 : Int) ^ min (d - 1) 64) = ((2 ^ (d - 1) : Nat) : Int) := wrap_pow hd1 hd8
        obtain ⟨q, hq⟩ : ∃ q, 2 ^ (d - 1) = q := ⟨_, rfl⟩
        rw [hq] at hlt k2
        clear hq
        obtain ⟨d', hd'⟩ : ∃ d', d - 1 = d' := ⟨_, rfl⟩
        rw [hd'] at k1 k2
        clear hd'
        have t1 : decide ((q : Int) < (n : Int) + 1) = true := decide_eq_true (by omega)
        go_wp2
        go_roundw
        case rel => exact ⟨d + 1, by omega, by omega, by go_num, ⟨by first | trivial | rfl⟩⟩
        case measure => simp [intOf]; omega
      · clear HWE
        have k1 : IntKind.i64.wrap ((d : Int) - 1) = ((d - 1 : Nat) : Int) := by rw [show (d : Int) - 1 = ((d - 1 : Nat) : Int) by omega]; exact IntWalk.i64_in _ (by omega)
        have k2 : wrap64 ((2 : Int) ^ min (d - 1) 64) = ((2 ^ (d - 1) : Nat) : Int) := wrap_pow hd1 hd8
        have HGD := Kp.mk HGE.out
        obtain ⟨q, hq⟩ : ∃ q, 2 ^ (d - 1) = q := ⟨_, rfl⟩
        have HQ := Kp.mk hq
        rw [hq] at hge k2 HGE
        clear hq
        obtain ⟨d', hd'⟩ : ∃ d', d - 1 = d' := ⟨_, rfl⟩
        rw [hd'] at k1 k2
        have HD' := Kp.mk hd'
        clear hd'
        have t1 : decide ((q : Int) < (n : Int) + 1) = false := decide_eq_false (by omega)
        go_wp2
        clear k1 k2 t1 hge HGE HQ HD'
        have HCH := Kp.mk (fun k (hk : k < m) => ver_cheap (h := d - 1) HNL.out (by omega) HOK.out HGD.out k (by rw [HCL.out]; exact hk))
        have HVT := Kp.mk (fun k => verT_take N cs k k (Nat.le_refl _))
        have HV40 := Kp.mk (show ∀ k, k ≤ m → (verT N cs k).2 ≤ 2 * n + 1 + 8 * k from fun k => by
          induction k with
          | zero => intro _; rw [HF.out]; omega
          | succ k ih =>
            intro hk
            have h1 := ih (by omega)
            have h2 := (HCH.out k (by omega)).2
            omega)
        go_loopw [10, 11] (fun v10 v11 wr' => ∃ (k u : Nat), 1 ≤ k ∧ k ≤ m + 1 ∧ u ≤ 1000 ∧ v11 = .int .i64 k ∧ v10 = .int .i64 u ∧ Kp ((verT N cs (k - 1)).2 = u) ∧ Kp (Below wr.heap.size wr wr')) (fun _ v11 _ => m + 1 - (intOf v11).toNat)
        case atStart => exact ⟨1, 2 * n + 1, by omega, by omega, by omega, rfl, by first | rfl | go_num, ⟨by rw [HF.out]; omega⟩, ⟨Below.refl _ _⟩⟩
        case round =>
          obtain ⟨wo, rfl⟩ : ∃ wo : World, wo = wr := ⟨_, rfl⟩
          obtain ⟨k, u, hk1, hkm, hu, rfl, rfl, HU, HBR⟩ := hrel
          by_cases hlt : k ≤ m
          · have hkoc : k ≤ oc := Nat.le_trans hlt HC5.out.le
            have hcap := HC5.out.le
            have hkz : (k : Int) ≤ m := by omega
            have HNR := Kp.mk (HN5.out.below HBR.out)
            have HCR := Kp.mk (HC5.out.below HBR.out)
            have HCF := Kp.mk (show SlF chL 5 wo oa k oc (cs.take k) from by
              have := SlC.front HCR.out hlt
              unfold SlF
              rw [← flat_take chL_len]; exact this)
            have HOF := Kp.mk (show ∀ j (h : j < (cs.take k).length), (cs.take k)[j].Ok j (n + 1) from fun j h => by
              rw [List.getElem_take]; exact HOK.out j _)
            have CC := Kp.mk (fun (W : World) (hW : Below wo.heap.size wo W) => (copied_n sa sc (n + 1) N W (HNR.out.below hW) HNL.out (by omega)).mono (R' := fun e w' => ∃ c1 d1, e = .returned (.slice c1 (n + 1) d1) ∧ SlC w' c1 (n + 1) d1 1 (ints N) ∧ Below W.heap.size W w') (fun e w' ⟨c1, d1, h1, h2, h3⟩ => ⟨c1, d1, h1, by unfold SlI at h2; rw [HNL.out] at h2; exact h2, h3⟩))
            have hD0 : Below wo.heap.size wo wo.drew := (Below.refl _ _).drew
            obtain ⟨v, hv⟩ : ∃ v, (verT N cs k).2 = v := ⟨_, rfl⟩
            have HV := Kp.mk hv
            have hvb : u ≤ v ∧ v ≤ u + d ∧ v ≤ 1000 := by
              obtain ⟨j, rfl⟩ : ∃ j, k = j + 1 := ⟨k - 1, by omega⟩
              have h1 := HCH.out j (by omega)
              have h2 := HV40.out (j + 1) hlt
              have h3 := HU.out
              rw [show j + 1 - 1 = j by omega] at h3
              omega
            have CS := Kp.mk (fun (W : World) (x : Option Addr) (y : Nat) (x2 : Option Addr) (y2 : Nat) (h1 : SlC W x (n + 1) y 1 (ints N)) (h2 : SlF chL 5 W x2 k y2 (cs.take k)) => (shared_any x x2 y y2 (n + 1) k N (cs.take k) W h1 HNL.out h2 (by omega) (by omega) (by omega) HOF.out).mono (R' := fun e w' => e = .returned (.tuple #[.int .i64 (v : Int), .int .i64 0]) ∧ Kp (Below W.heap.size W w')) (fun e w' ⟨e1, e2⟩ => ⟨by rw [e1, HVT.out k, HV.out], e2⟩))
            clear hv HCR HOF
            have t3 : decide ((v : Int) < u) = false := decide_eq_false (by omega)
            have t4 : decide ((v : Int) > (u : Int) + d) = false := decide_eq_false (by omega)
            have e5 : IntKind.i64.wrap ((u : Int) + d) = (u : Int) + d := IntWalk.i64_in _ (by omega)
            have e6 : IntKind.i64.wrap ((k : Int) + 1) = (k : Int) + 1 := IntWalk.i64_in _ (by omega)
            go_wp2
            go_region_held3 (fun _ => True) (exact True.intro)
              ((first
                | (go_at_call 7; (with_reducible refine (CC.out _ hD0).mono ?_); rintro e wa ⟨c2, d2, rfl, ha, hba⟩)
                | (go_at_call 7; (with_reducible refine (CC.out _ hDx).mono ?_); rintro e wb ⟨c2, d2, rfl, ha, hbb⟩)
                | (refine step_cat0 tChs (by rfl) _ _ (by rfl) wo.heap.size (by rfl) oa k oc _ (by rfl) (HCF.out.below hD0) (flat_one chL_one _) (by omega) (by decide) (Nat.le_refl _) ?_; intro xa xc wx hownx hgrx; have hDx : Below wo.heap.size wo wx := hD0.trans (below_of_grown hgrx (Nat.le_refl _) (fun q hq => by cases hq)))
                | (refine step_cat0 tChs (by rfl) _ _ (by rfl) wo.heap.size (by rfl) oa k oc _ (by rfl) (HCF.out.below (hD0.trans hba)) (flat_one chL_one _) (by omega) (by decide) (hD0.trans hba).size ?_; intro xa xc wy howny hgry; have hDy := below_of_grown hgry (Nat.le_refl wa.heap.size) (fun q hq => by cases hq))
                | (go_at_call 6; refine (CS.out wy c2 d2 xa xc (ha.below hDy) (own_slc howny)).mono ?_; rintro e wz ⟨rfl, HZ⟩; have HBZ := Kp.mk (below_step (below_step (below_step hD0 hba) hDy) HZ.out))
                | (go_at_call 6; refine (CS.out wb c2 d2 xa xc ha (own_slc (own_below hownx hbb))).mono ?_; rintro e wz ⟨rfl, HZ⟩; have HBZ := Kp.mk (below_step (below_step hDx hbb) HZ.out))
                | fail))
            all_goals
              have HBY := Kp.mk (HBR.out.trans (HBZ.out.mono HBR.out.size))
              have HKK := Kp.mk (show (verT N cs (k + 1 - 1)).2 = v from HV.out)
              clear HBZ HZ
              go_wp2
              go_roundw
              case rel => exact ⟨k + 1, v, by omega, by omega, by omega, by go_num, rfl, HKK, HBY⟩
              case measure => simp [intOf]; omega
          · obtain rfl : k = m + 1 := by omega
            have hkz : ¬ (((m + 1 : Nat) : Int) ≤ m) := by omega
            have HBF := Kp.mk (HBW.out.trans (HBR.out.mono HBW.out.size))
            clear HBR
            go_wp2
            go_ret
            exact ⟨rfl, HBF.out⟩

end Go.Proofs.Ytdjcmemdlmfgpaa

/- KleeCounted: the walk. -/
import Derived.Test.YtlmdlholmlbcbaaKlR
import Derived.Test.YtlmdlholmlbcbaaKlD
import Derived.Test.YtlmdlholmlbcbaaFlatIn
namespace Go.Proofs.Ytlmdlholmlbcbaa
set_option linter.unusedVariables false
open Go.RowKit
open Pick (Rc IsDepth tot sumN cov inRc)

theorem cov_app (r : Rc) (x y : Int) : ∀ l : List Rc, cov (l ++ [r]) x y = cov l x y + (if inRc r x y = true then 1 else 0)
  | [] => by show (if inRc r x y = true then 1 else 0) + 0 = 0 + _; omega
  | s :: l => by
    show (if inRc s x y = true then 1 else 0) + cov (l ++ [r]) x y = (if inRc s x y = true then 1 else 0) + cov l x y + _
    rw [cov_app r x y l]; omega
/-- The deepest place among those before x, and before y in the column x. -/
structure Deepest (L : List Rc) (x y D : Int) : Prop where
  ge : ∀ p q : Int, 0 ≤ p → 0 ≤ q → q < 16 → (p < x ∨ (p = x ∧ q < y)) → cov L p q ≤ D
  is_ : D = 0 ∨ ∃ p q, cov L p q = D
  pos : 0 ≤ D
theorem deepest_start (L : List Rc) : Deepest L 0 0 0 := ⟨fun p q h0 h1 h2 h => by omega, .inl rfl, Int.le_refl _⟩
theorem deepest_step {L : List Rc} {x y D : Int} (h : Deepest L x y D) : Deepest L x (y + 1) (max D (cov L x y)) := by
  refine ⟨fun p q h0 h1 h2 hh => ?_, ?_, by have := h.pos; omega⟩
  · by_cases he : p = x ∧ q = y
    · rw [he.1, he.2]; omega
    · have := h.ge p q h0 h1 h2 (by omega); omega
  · by_cases hc : cov L x y ≤ D
    · rw [Int.max_eq_left hc]; exact h.is_
    · rw [Int.max_eq_right (by omega)]; exact .inr ⟨x, y, rfl⟩
theorem deepest_col {L : List Rc} {x D : Int} (h : Deepest L x 16 D) : Deepest L (x + 1) 0 D := ⟨fun p q h0 h1 h2 hh => h.ge p q h0 h1 h2 (by omega), h.is_, h.pos⟩
theorem deepest_end {L : List Rc} {D d : Int} (hb : Pick.Boxed L 0 16) (h : Deepest L 16 0 D) (hd : IsDepth L d) : d = D := by
  obtain ⟨p, q, e⟩ := hd.at_
  have h1 : D ≤ d := by
    rcases h.is_ with h2 | ⟨p', q', h2⟩
    · rw [h2, ← e]; exact Pick.cov_nonneg _ _ _
    · rw [← h2]; exact hd.le _ _
  have h3 : d ≤ D := by
    rw [← e]
    by_cases hin : 0 ≤ p ∧ p < 16 ∧ 0 ≤ q ∧ q < 16
    · exact h.ge p q hin.1 hin.2.2.1 hin.2.2.2 (by omega)
    · rw [Pick.cov_none L p q (fun r hr => by
        cases hi : inRc r p q with
        | false => rfl
        | true =>
          rw [Pick.inRc_iff] at hi
          have := hb r hr
          omega)]
      exact h.pos
  omega

attribute [local irreducible] cov sumN
set_option maxRecDepth 100000 in
set_option maxHeartbeats 8000000 in
theorem walk_KleeCounted (a0 : Option Addr) (len0 cap0 : Nat) (z0 : List Int) (w : World) (w0 : IsFlat 3 w a0 len0 cap0 z0) :
    Calls Try.prog 12 #[.slice a0 len0 cap0] w fun e w' => e = .returned (.bool true) ∧ Below w.heap.size w w' := by
  obtain ⟨S, hS, wS, nS⟩ := spots_in w0
  have C1 := Kp.mk (rects_any a0 cap0 len0 12 16 S w hS (by unfold maxLen at nS; omega) (by omega) (by omega) (by omega) wS)
  clear hS wS nS w0
  go_enter Try.func12, Try.ntmps12
  go_wp2_with fail
  refine C1.out.mono ?_
  rintro e w1 ⟨oa, oc, r, rfl, HR, HO, hb1⟩
  have HIN := Kp.mk (rcsOf_in S 12 16 (by omega))
  have hr12 : r ≤ 12 := by rw [← HR.out, rcsOf_length]; omega
  obtain ⟨L, hL⟩ : ∃ L, rcsOf S 12 16 = L := ⟨_, rfl⟩
  rw [hL] at HR HO HIN
  have HB1 := Kp.mk hb1
  have HL := Kp.mk (show SlF rcL 4 w1 oa r oc L from own_slc HO.out)
  clear C1 hb1 HO hL
  go_wp2
  go_loopw [4, 5, 6] (fun v4 v5 v6 wr => ∃ (x : Nat) (N D : Int), x ≤ 16 ∧ v6 = .int .i64 x ∧ v4 = .int .i64 N ∧ v5 = .int .i64 D ∧ 0 ≤ N ∧ N ≤ x * 16 ∧ Kp (N = sumN x (fun i => Pick.colF L 0 16 (0 + i)) ∧ Deepest L x 0 D) ∧ Kp (Below w1.heap.size w1 wr)) (fun _ _ v6 _ => 16 - (intOf v6).toNat)
  case atStart => exact ⟨0, 0, 0, by omega, rfl, rfl, rfl, by omega, by omega, ⟨by unfold sumN; rfl, deepest_start L⟩, ⟨Below.refl _ _⟩⟩
  case round =>
    obtain ⟨x, N, D, hx, rfl, rfl, rfl, hN0, hN1, HK, HBr⟩ := hrel
    by_cases hlt : x < 16
    · obtain ⟨wo, rfl⟩ : ∃ wo : World, wo = wr := ⟨_, rfl⟩
      go_wp2
      go_loopw [4, 5, 7] (fun v4 v5 v7 wr => ∃ (y : Nat) (N' D' : Int), y ≤ 16 ∧ v7 = .int .i64 y ∧ v4 = .int .i64 N' ∧ v5 = .int .i64 D' ∧ N ≤ N' ∧ N' ≤ N + y ∧ Kp (N' = N + sumN y (fun j => if 0 < cov L x (0 + j) then 1 else 0) ∧ Deepest L x y D') ∧ Kp (Below w1.heap.size w1 wr)) (fun _ _ v7 _ => 16 - (intOf v7).toNat)
      case atStart => exact ⟨0, N, D, by omega, rfl, rfl, rfl, Int.le_refl _, by omega, ⟨by unfold sumN; omega, HK.out.2⟩, HBr⟩
      case round =>
        clear HBr
        obtain ⟨y, N', D', hy, rfl, rfl, rfl, hM0, hM1, HK2, HBr⟩ := hrel
        by_cases hly : y < 16
        · obtain ⟨wp, rfl⟩ : ∃ wp : World, wp = wr := ⟨_, rfl⟩
          go_wp2
          go_loopw [8, 9] (fun v8 v9 wr => ∃ k : Nat, k ≤ r ∧ v9 = .int .i64 k ∧ v8 = .int .i64 (cov (L.take k) x y) ∧ Kp (Below w1.heap.size w1 wr)) (fun _ v9 _ => r - (intOf v9).toNat)
          case atStart => exact ⟨0, Nat.zero_le _, rfl, by unfold cov; rfl, HBr⟩
          case round =>
            clear HBr
            obtain ⟨k, hk, rfl, rfl, HBr⟩ := hrel
            by_cases hkr : k < r
            · obtain ⟨b, off, hoa, hbw, co⟩ := (HL.out.below HBr.out).at rcL_len (by omega) k (by rw [HR.out]; exact hkr)
              have HTK := Kp.mk (List.take_succ_eq_append_getElem (show k < L.length by rw [HR.out]; exact hkr))
              generalize L[k]'(by rw [HR.out]; exact hkr) = p at *
              subst hoa
              have o0 : wr.cell? ⟨b, off + k * 4, none⟩ = some (.int .i64 p.x0) := co 0 (by omega)
              have o1 : wr.cell? ⟨b, off + k * 4 + 1, none⟩ = some (.int .i64 p.y0) := co 1 (by omega)
              have o2 : wr.cell? ⟨b, off + k * 4 + 2, none⟩ = some (.int .i64 p.x1) := co 2 (by omega)
              have o3 : wr.cell? ⟨b, off + k * 4 + 3, none⟩ = some (.int .i64 p.y1) := co 3 (by omega)
              have hcb : 0 ≤ cov (L.take k) x y ∧ cov (L.take k) x y ≤ 100 := ⟨Pick.cov_nonneg _ _ _, by
                have h5 := Pick.cov_le (L.take k) x y
                rw [List.length_take] at h5
                have h6 := Nat.min_le_left k L.length
                omega⟩
              clear co
              by_cases h1 : p.x0 ≤ (x : Int)
              · by_cases h2 : (x : Int) ≤ p.x1
                · by_cases h3 : p.y0 ≤ (y : Int)
                  · by_cases h4 : (y : Int) ≤ p.y1
                    · have t1 : decide (p.x0 ≤ (x : Int)) = true := decide_eq_true h1
                      have t2 : decide ((x : Int) ≤ p.x1) = true := decide_eq_true h2
                      have t3 : decide (p.y0 ≤ (y : Int)) = true := decide_eq_true h3
                      have t4 : decide ((y : Int) ≤ p.y1) = true := decide_eq_true h4
                      have HC := Kp.mk (show cov (L.take k) x y + 1 = cov (L.take (k + 1)) x y from by rw [HTK.out, cov_app, if_pos ((Pick.inRc_iff _ _ _).2 ⟨h1, h2, h3, h4⟩)])
                      obtain ⟨c, hc⟩ : ∃ c, cov (L.take k) x y = c := ⟨_, rfl⟩
                      rw [hc] at hcb HC
                      simp only [hc]
                      have e1 : IntKind.i64.wrap (c + 1) = c + 1 := IntWalk.i64_in _ (by omega)
                      clear hc
                      go_wp2
                      go_roundw
                      case rel => exact ⟨k + 1, by omega, by go_num, by rw [← HC.out], HBr⟩
                      case measure => simp [intOf]; omega
                    · have t1 : decide (p.x0 ≤ (x : Int)) = true := decide_eq_true h1
                      have t2 : decide ((x : Int) ≤ p.x1) = true := decide_eq_true h2
                      have t3 : decide (p.y0 ≤ (y : Int)) = true := decide_eq_true h3
                      have t4 : decide ((y : Int) ≤ p.y1) = false := decide_eq_false h4
                      have HC := Kp.mk (show cov (L.take k) x y = cov (L.take (k + 1)) x y from by rw [HTK.out, cov_app, if_neg (fun h => by rw [Pick.inRc_iff] at h; omega)]; omega)
                      rw [HC.out]
                      clear hcb
                      go_wp2
                      go_roundw
                      case rel => exact ⟨k + 1, by omega, by go_num, rfl, HBr⟩
                      case measure => simp [intOf]; omega
                  · have t1 : decide (p.x0 ≤ (x : Int)) = true := decide_eq_true h1
                    have t2 : decide ((x : Int) ≤ p.x1) = true := decide_eq_true h2
                    have t3 : decide (p.y0 ≤ (y : Int)) = false := decide_eq_false h3
                    have HC := Kp.mk (show cov (L.take k) x y = cov (L.take (k + 1)) x y from by rw [HTK.out, cov_app, if_neg (fun h => by rw [Pick.inRc_iff] at h; omega)]; omega)
                    rw [HC.out]
                    clear hcb
                    go_wp2
                    go_roundw
                    case rel => exact ⟨k + 1, by omega, by go_num, rfl, HBr⟩
                    case measure => simp [intOf]; omega
                · have t1 : decide (p.x0 ≤ (x : Int)) = true := decide_eq_true h1
                  have t2 : decide ((x : Int) ≤ p.x1) = false := decide_eq_false h2
                  have HC := Kp.mk (show cov (L.take k) x y = cov (L.take (k + 1)) x y from by rw [HTK.out, cov_app, if_neg (fun h => by rw [Pick.inRc_iff] at h; omega)]; omega)
                  rw [HC.out]
                  clear hcb
                  go_wp2
                  go_roundw
                  case rel => exact ⟨k + 1, by omega, by go_num, rfl, HBr⟩
                  case measure => simp [intOf]; omega
              · have t1 : decide (p.x0 ≤ (x : Int)) = false := decide_eq_false h1
                have HC := Kp.mk (show cov (L.take k) x y = cov (L.take (k + 1)) x y from by rw [HTK.out, cov_app, if_neg (fun h => by rw [Pick.inRc_iff] at h; omega)]; omega)
                rw [HC.out]
                clear hcb
                go_wp2
                go_roundw
                case rel => exact ⟨k + 1, by omega, by go_num, rfl, HBr⟩
                case measure => simp [intOf]; omega
            · obtain rfl : k = r := by omega
              have HTA := Kp.mk (show L.take k = L from List.take_of_length_le (by rw [HR.out]; exact Nat.le_refl _))
              rw [HTA.out]
              have hcb := Pick.cov_nonneg L x y
              have HDS := Kp.mk (deepest_step HK2.out.2)
              have HSU := Kp.mk (sumN_succ y (fun j => if 0 < cov L x (0 + j) then 1 else 0))
              have HCX := Kp.mk (show cov L x (0 + (y : Int)) = cov L x y by rw [Int.zero_add])
              obtain ⟨c, hc⟩ : ∃ c, cov L x y = c := ⟨_, rfl⟩
              have HC := Kp.mk hc
              rw [hc] at hcb HDS HCX
              simp only [hc]
              clear hc
              have e1 : IntKind.i64.wrap ((y : Int) + 1) = (y : Int) + 1 := IntWalk.i64_in _ (by omega)
              have e2 : IntKind.i64.wrap (N' + 1) = N' + 1 := IntWalk.i64_in _ (by omega)
              by_cases hp : 0 < c
              · have t1 : decide (c > 0) = true := decide_eq_true hp
                have HNN := Kp.mk (show N' + 1 = N + sumN (y + 1) (fun j => if 0 < cov L x (0 + j) then 1 else 0) from by
                  rw [HSU.out, HCX.out, if_pos hp, HK2.out.1]; omega)
                have HK3 := Kp.mk (⟨HNN.out, HDS.out⟩ : N' + 1 = N + sumN (y + 1) (fun j => if 0 < cov L x (0 + j) then 1 else 0) ∧ Deepest L x ((y : Int) + 1) (max D' c))
                go_wp2
                go_roundw
                case rel => exact ⟨y + 1, N' + 1, max D' c, by omega, by go_num, rfl, rfl, by omega, by omega, HK3, HBr⟩
                case measure => simp [intOf]; omega
              · have t1 : decide (c > 0) = false := decide_eq_false hp
                have HNN := Kp.mk (show N' = N + sumN (y + 1) (fun j => if 0 < cov L x (0 + j) then 1 else 0) from by
                  rw [HSU.out, HCX.out, if_neg hp, HK2.out.1]; omega)
                have HK3 := Kp.mk (⟨HNN.out, HDS.out⟩ : N' = N + sumN (y + 1) (fun j => if 0 < cov L x (0 + j) then 1 else 0) ∧ Deepest L x ((y : Int) + 1) (max D' c))
                go_wp2
                go_roundw
                case rel => exact ⟨y + 1, N', max D' c, by omega, by go_num, rfl, rfl, by omega, by omega, HK3, HBr⟩
                case measure => simp [intOf]; omega
        · obtain rfl : y = 16 := by omega
          have HK3 := Kp.mk (show N' = sumN (x + 1) (fun i => Pick.colF L 0 16 (0 + i)) ∧ Deepest L ((x : Int) + 1) 0 D' from by
            refine ⟨?_, deepest_col HK2.out.2⟩
            rw [sumN_succ, HK2.out.1, HK.out.1, Int.zero_add]
            rfl)
          have e1 : IntKind.i64.wrap ((x : Int) + 1) = (x : Int) + 1 := IntWalk.i64_in _ (by omega)
          go_wp2
          go_roundw
          case rel => exact ⟨x + 1, N', D', by omega, by go_num, rfl, rfl, by omega, by omega, HK3, HBr⟩
          case measure => simp [intOf]; omega
    · obtain rfl : x = 16 := by omega
      have HBX := Kp.mk (show Pick.Boxed L 0 16 from fun r hr => by have := HIN.out r hr; omega)
      have HOK := Kp.mk (show ∀ r ∈ L, r.x0 ≤ r.x1 ∧ r.y0 ≤ r.y1 from fun r hr => by have := HIN.out r hr; omega)
      have HNT := Kp.mk (show tot L 0 16 = N from by rw [HK.out.1]; rfl)
      have HLr := Kp.mk (SlF.below HL.out HBr.out)
      have HBW := Kp.mk (below_step HB1.out HBr.out)
      have HDE := Kp.mk HK.out.2
      have HSIX := Kp.mk (show tot [⟨0, 0, 2, 1⟩] 0 3 = 6 from by kernel_rfl)
      clear HL HBr HB1 HK
      go_wp2_with (at_builtin; refine wpList_cat tRcs rfl _ _ rfl wr.heap.size none 0 0 [] rfl (World.ownsRow_nil _ _ _ _) _ _ _ _ rfl HLr.out (rcL_one _) ?c1 (by decide) (Nat.le_refl _) ?c2)
      case c1 => omega
      case c2 =>
        intro ra rc w3 ho hb3
        have CD := Kp.mk (depth_any ra rc r L 0 16 w3 (own_slc ho) (by omega) HBX.out (by omega) (by omega) HOK.out)
        have HL3 := Kp.mk (SlF.below HLr.out hb3)
        have HB3 := Kp.mk (below_step HBW.out hb3)
        clear ho hb3 HLr HBW
        go_wp2_with fail
        refine CD.out.mono ?_
        rintro e w4 ⟨d, rfl, HID, hb4⟩
        have HEQ := Kp.mk (deepest_end HBX.out HDE.out HID.out)
        have HL4 := Kp.mk (SlF.below HL3.out hb4)
        have HB4 := Kp.mk (below_step HB3.out hb4)
        rw [HEQ.out]
        clear hb4 HL3 HB3 CD HID
        have CA := Kp.mk (areaOf_any oa oc r L 0 16 w4 HL4.out (by omega) HBX.out (by omega) (by omega) HOK.out)
        rw [HNT.out] at CA
        go_wp2_with fail
        refine CA.out.mono ?_
        rintro e WA ⟨rfl, hbA⟩
        have HWA := Kp.mk (below_step HB4.out hbA)
        have CL := Kp.mk (areaOf_any (some ⟨WA.heap.size, 0, none⟩) 1 1 [⟨0, 0, 2, 1⟩] 0 3 _ (own_slc (lit_own WA #[.int .i64 0, .int .i64 0, .int .i64 2, .int .i64 1] 65 1 4 rfl (by decide))) (by omega) (fun r hr => by rw [List.mem_singleton.1 hr]; decide) (by omega) (by omega) (fun r hr => by rw [List.mem_singleton.1 hr]; decide))
        rw [HSIX.out] at CL
        have HBL := Kp.mk (below_alloc (Nat.le_refl WA.heap.size) (.cells #[.int .i64 0, .int .i64 0, .int .i64 2, .int .i64 1] 65))
        clear CA hbA
        go_wp2_with fail
        refine CL.out.mono ?_
        rintro e WB ⟨rfl, hbB⟩
        have HWB := Kp.mk (below_step HWA.out (below_step HBL.out hbB))
        clear hbB CL HBL HWA
        go_wp2
        go_ret
        exact ⟨rfl, HWB.out⟩

end Go.Proofs.Ytlmdlholmlbcbaa

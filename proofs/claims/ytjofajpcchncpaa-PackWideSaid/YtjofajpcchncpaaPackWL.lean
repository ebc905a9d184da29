/- The walk of PackWide. -/
import Derived.Test.YtjofajpcchncpaaPackW
namespace Go.Proofs.Ytjofajpcchncpaa
set_option linter.unusedVariables false
open Go.RowKit

theorem eight (w : World) (b : Nat) (h : b = w.heap.size) : SlI (w.alloc (.cells #[.int .i64 8] 3)) (some ⟨b, 0, none⟩) 1 (([8] : List Nat).map Int.ofNat) := by
  subst h
  exact own_slc (World.ownsRow_lit (base := 0) w #[.int .i64 8] 1 (Nat.zero_le _) (by decide) rfl)
theorem eight_fits : ∀ i, i < 1 → ([8] : List Nat).getD i 0 < 2 ^ 62 := fun i hi => by
  obtain rfl : i = 0 := by omega
  decide

set_option maxHeartbeats 1000000 in
theorem walk_PackWide (a0 : Option Addr) (len0 cap0 : Nat) (z0 : List Int) (a1 : Int) (w : World) (w0 : IsRow .i64 w a0 len0 cap0 z0) (w1 : (Lit.int .i64 a1).wf = true) :
    Calls Try.prog 12 #[.slice a0 len0 cap0, .int .i64 a1] w fun e w' => e = .returned (.bool true) ∧ Below w.heap.size w w' := by
  obtain ⟨l, rfl, hl, wl, nl⟩ := row_sl w0
  obtain ⟨b1, b2⟩ := wf_bd w1
  have HL := Kp.mk hl
  have WL := Kp.mk wl
  unfold maxLen at nl
  have hpb := pick_bd a1 1099511627776 (by omega)
  clear w0 w1 hl wl
  go_enter Try.func12, Try.ntmps12
  go_wp2_with fail
  refine (picked_any a1 1099511627776 _ (by omega) (by omega) b1 b2).mono ?_
  rintro e w' ⟨rfl, rfl⟩
  generalize pick a1 1099511627776 = p at *
  obtain ⟨h1, h2⟩ := hpb
  go_wp2_with fail
  refine (numbers_any a0 cap0 100 (1 + p) l _ HL.out (by omega) (by omega) (by omega) (by omega) WL.out).mono ?_
  rintro e w1 ⟨sn, cn, rfl, hown, hbel⟩
  obtain ⟨L, hL, hLL, hlt⟩ := nums_nat l 100 (1 + p) (by omega)
  have hn100 : (nums l 100 (1 + p)).length ≤ 100 := by rw [nums_length]; omega
  have hS := hown.sl
  rw [hL] at hS
  generalize (nums l 100 (1 + p)).length = n at *
  have HLL := Kp.mk hLL
  have HLN : Kp ((L.map Int.ofNat).length = n) := ⟨by rw [List.length_map]; exact HLL.out⟩
  have HX : Kp (∀ i, i < n → L.getD i 0 < 2 ^ 62) := ⟨fun i hi => by
    have := hlt i (by rw [HLL.out]; exact hi)
    omega⟩
  have HS := Kp.mk hS
  have HB := Kp.mk hbel
  clear hL hLL hlt hS hown hbel
  go_wp2_with fail
  refine (copied_n sn cn n _ _ HS.out HLN.out (by omega)).mono ?_
  rintro e w2 ⟨s2, c2, rfl, hS2, hb2⟩
  have HB2 := Kp.mk (below_step HB.out hb2)
  have HS3 := Kp.mk (HS.out.below hb2)
  clear hb2 HB HS
  go_wp2_with fail
  refine (wide_any s2 c2 n L _ hS2 HLL.out (by omega) HX.out).mono ?_
  rintro e w' ⟨rfl, rfl⟩
  have hwm := wideN_le L n 62 (by omega) HX.out
  have HF := Kp.mk (wideN_fits L n (fun i hi => Nat.lt_trans (HX.out i hi) (by decide)))
  have HLE := Kp.mk (wideN_least L n)
  generalize wideN L n = m at *
  clear hS2
  go_wp2_with fail
  refine (copied_n sn cn n _ _ HS3.out HLN.out (by omega)).mono ?_
  rintro e w3 ⟨s3, c3, rfl, hS4, hb3⟩
  have HB3 := Kp.mk (below_step HB2.out hb3)
  have HS4 := Kp.mk (HS3.out.below hb3)
  clear hb3 HB2 HS3
  go_wp2_with fail
  refine (make_ok s3 c3 m n L _ hS4 HLL.out (by omega) hwm HF.out).mono ?_
  rintro e w4 ⟨sp, cp, rfl, hO3, hb4⟩
  have HB4 := Kp.mk (below_step HB3.out hb4)
  have HS5 := Kp.mk (HS4.out.below hb4)
  clear hb4 HB3 HS4 hS4 hO3
  go_wp2_with fail
  refine (copied_n sn cn n _ _ (HS5.out.below (below_alloc (Nat.le_refl _) _)) HLN.out (by omega)).mono ?_
  rintro e w5 ⟨s5, c5, rfl, hS6, hb5⟩
  have HB5 := Kp.mk (below_step (below_then_alloc HB4.out _) hb5)
  clear hb5 HB4 HS5
  have HM : Kp (Calls Try.prog 39 #[.int .i64 ((m : Int) - 1), .slice s5 n c5] w5 (fun e w' => e = .returned (.tuple #[.agg #[.int .i64 0, .int .i64 0, .slice none 0 0], .int .i64 2]) ∧ Below w5.heap.size w5 w')) := by
    constructor
    by_cases hm0 : m = 0
    · subst hm0
      exact make_neg _ _ _ _ _ (by omega) (by omega) (by omega)
    · obtain ⟨j, hj, hj1, hj2⟩ := first_bad L n (2 ^ (m - 1)) (HLE.out (by omega))
      have := make_bad s5 c5 (m - 1) n L w5 hS6 HLL.out j (by omega) (by omega) hj hj1 (HX.out j hj) hj2
      rwa [show ((m - 1 : Nat) : Int) = (m : Int) - 1 by omega] at this
  clear hS6
  go_wp2_with fail
  refine HM.out.mono ?_
  rintro e w6 ⟨rfl, hb6⟩
  have HB6 := Kp.mk (below_step HB5.out hb6)
  clear hb6 HB5 HM
  go_wp2_with fail
  refine (wide_any _ 1 1 [8] _ (eight _ _ (by simp)) rfl (by omega) eight_fits).mono ?_
  rintro e w' ⟨rfl, rfl⟩
  rw [show wideN [8] 1 = 4 by decide]
  go_wp2
  all_goals
    go_ret
    exact ⟨rfl, below_then_alloc (below_then_alloc HB6.out _) _⟩

end Go.Proofs.Ytjofajpcchncpaa

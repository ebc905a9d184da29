/- StabRooms: the walk. -/
import Derived.Test.YtlmdlholmlbcbaaStQ
import Derived.Test.YtlmdlholmlbcbaaStO
import Derived.Test.YtlmdlholmlbcbaaStP
namespace Go.Proofs.Ytlmdlholmlbcbaa
set_option linter.unusedVariables false
open Go.RowKit

set_option maxRecDepth 100000 in
set_option maxHeartbeats 8000000 in
theorem walk_StabRooms (a0 : Option Addr) (len0 cap0 : Nat) (z0 : List Int) (w : World) (w0 : IsRow .i64 w a0 len0 cap0 z0) :
    Calls Try.prog 5 #[.slice a0 len0 cap0] w fun e w' => e = .returned (.bool true) ∧ Below w.heap.size w w' := by
  obtain ⟨l, rfl, hl, wl, nl⟩ := row_sl w0
  have CS := Kp.mk (spans_any a0 cap0 l.length 60 60 l w hl rfl (by unfold maxLen at nl; omega) (by omega) (by omega) (by omega) wl)
  clear w0 hl wl
  go_enter Try.func5, Try.ntmps5
  go_wp2_with fail
  refine CS.out.mono ?_
  rintro e w1 ⟨sa, sc, r, rfl, HR, HO, hb1⟩
  have HB1 := Kp.mk hb1
  have hr80 : r ≤ 60 := by have := HR.out; rw [spsOf_length] at this; omega
  have HBD := Kp.mk (spsOf_bd l 60 60 (by omega))
  have hsz := hb1.size
  generalize spsOf l 60 60 = P at *
  clear hb1 CS
  go_wp2_with (at_builtin; refine wpList_push tSps rfl _ _ rfl w.heap.size sa r sc _ rfl HO.out 1 1 _ rfl rfl ?d1 (by decide) ?d2 (by decide) hsz ?d4)
  case d1 => simp [Value.oneCell']
  case d2 => omega
  case d4 =>
    intro na nc w2 ho2 hb2
    obtain ⟨L, hL⟩ : ∃ L : List Spn, L = P ++ [⟨5, 7⟩] := ⟨_, rfl⟩
    generalize hn : r + 1 = n at *
    have HLL := Kp.mk (show L.length = n by rw [hL, List.length_append, HR.out, ← hn]; rfl)
    have HN2 := Kp.mk (show SlF spL 2 w2 na n nc L from own_slc (show w2.ownsRow w.heap.size 26 2 (.slice na n nc) n (flat spL L) from by
      rw [hL, flat_append]
      have e : flat spL [(⟨5, 7⟩ : Spn)] = [.int .i64 5, .int .i64 7] := by simp [flat, spL]
      rw [e]; exact ho2))
    have HB2 := Kp.mk (HB1.out.trans hb2)
    have HLB := Kp.mk (show ∀ s ∈ L, 0 ≤ s.lo ∧ s.lo ≤ s.hi ∧ s.hi ≤ 9999 from fun s hs => by
      rw [hL] at hs
      rcases List.mem_append.1 hs with hs | hs
      · have := HBD.out _ hs; omega
      · rw [List.mem_singleton.1 hs]; simp)
    have HOK := Kp.mk (show ∀ s ∈ L, s.Ok from fun s hs => by
      have := HLB.out s hs; unfold Spn.Ok; omega)
    have H57 := Kp.mk (show (⟨5, 7⟩ : Spn) ∈ L by rw [hL]; simp)
    have hn81 : n ≤ 81 := by omega
    have hn0 : 0 < n := by omega
    clear ho2 hb2 hL HO hsz HBD hn hr80 HR
    go_wp2_with (at_builtin; refine wpList_cat tSps rfl _ _ rfl w2.heap.size none 0 0 [] rfl (World.ownsRow_nil _ _ _ _) _ _ _ _ rfl HN2.out (flat_one spL_one L) ?e1 (by decide) (Nat.le_refl _) ?e2)
    case e1 => omega
    case e2 =>
      intro ca cc w3 hc hb3
      have HC3 := Kp.mk (show SlF spL 2 w3 ca n cc L from own_slc (by simpa using hc))
      have HN3 := Kp.mk (SlF.below HN2.out hb3)
      have HB3 := Kp.mk (below_step HB2.out hb3)
      clear hc hb3 HN2
      go_wp2_with fail
      refine (rooms_any ca cc n L w3 HC3.out (by omega) hn0 HOK.out).mono ?_
      rintro e w4 ⟨xa, xc, out, rfl, HX4, HRM, hb4⟩
      have HN4 := Kp.mk (SlF.below HN3.out hb4)
      have HB4 := Kp.mk (below_step HB3.out hb4)
      clear hb4 HN3 HB3 HC3
      go_wp2_with (at_builtin; refine wpList_cat tSps rfl _ _ rfl w4.heap.size none 0 0 [] rfl (World.ownsRow_nil _ _ _ _) _ _ _ _ rfl HN4.out (flat_one spL_one L) ?f1 (by decide) (Nat.le_refl _) ?f2)
      case f1 => omega
      case f2 =>
        intro da dc w5 hc hb5
        have HC5 := Kp.mk (show SlF spL 2 w5 da n dc L from own_slc (by simpa using hc))
        have HN5 := Kp.mk (SlF.below HN4.out hb5)
        have HX5 := Kp.mk (own_below HX4.out hb5)
        have HB5 := Kp.mk (below_step HB4.out hb5)
        clear hc hb5 HN4 HX4 HB4
        go_wp2_with fail
        refine (most_any da dc n L w5 HC5.out (by omega) hn0 HOK.out).mono ?_
        rintro e w6 ⟨many, at', rfl, HM, hb6⟩
        have HN6 := Kp.mk (SlF.below HN5.out hb6)
        have HX6 := Kp.mk (own_below HX5.out hb6)
        have HB6 := Kp.mk (below_step HB5.out hb6)
        clear hb6 HN5 HX5 HB5 HC5
        go_wp2_with fail
        refine (stab_any na nc n L at' w6 HN6.out (by omega) HOK.out).mono ?_
        rintro e w7 ⟨ya, yc, yr, rfl, HYR, HYO, hb7⟩
        have HN7 := Kp.mk (SlF.below HN6.out hb7)
        have HX7 := Kp.mk (own_below HX6.out hb7)
        have HB7 := Kp.mk (below_step HB6.out hb7)
        obtain rfl : yr = many := by rw [← HYR.out]; exact HM.out.here
        have HFEW := Kp.mk (show ∀ i, i < n → out.getD i 0 < yr from fun i hi => by
          obtain ⟨x, hx, h1⟩ := HRM.out.few
          exact Nat.lt_of_lt_of_le (h1 i hi) (HM.out.all x hx))
        have HAP := Kp.mk HRM.out.apart
        have HOL := Kp.mk HRM.out.len
        obtain ⟨g1, rfl, _⟩ := own_some HX7.out hn0
        have z1 : ((n : Int) != n) = false := by simp
        have z2 : ((yr : Int) != yr) = false := by simp
        clear hb7 HN6 HX6 HB6 HYO HYR HM HRM
        obtain ⟨wo, rfl⟩ : ∃ wo : World, wo = w7 := ⟨_, rfl⟩
        go_wp2
        go_loopw [11] (fun i wr => ∃ k : Nat, k ≤ n ∧ i = .int .i64 k ∧ Kp (Below wo.heap.size wo wr)) (fun i _ => n - (intOf i).toNat)
        case atStart => exact ⟨0, Nat.zero_le _, rfl, ⟨Below.refl _ _⟩⟩
        case round =>
          obtain ⟨k, hk, rfl, HB⟩ := hrel
          by_cases hlt : k < n
          · have c0 := nat_at (own_below HX7.out HB.out) HOL.out k hlt
            have hfew := HFEW.out k hlt
            obtain ⟨x, hx⟩ : ∃ x, out.getD k 0 = x := ⟨_, rfl⟩
            rw [hx] at c0 hfew
            have HXE := Kp.mk hx
            have t1 : decide ((x : Int) < 0) = false := decide_eq_false (by omega)
            have t2 : decide ((x : Int) ≥ (yr : Int)) = false := decide_eq_false (by omega)
            clear hx
            go_wp2
            go_loopw [12] (fun q wr => ∃ k2 : Nat, k2 ≤ k ∧ q = .int .i64 k2 ∧ Kp (Below wo.heap.size wo wr)) (fun q _ => k - (intOf q).toNat)
            case atStart => exact ⟨0, Nat.zero_le _, rfl, HB⟩
            case round =>
              clear HB c0
              obtain ⟨k2, hk2, rfl, HB⟩ := hrel
              by_cases hlt2 : k2 < k
              · have c0 := nat_at (own_below HX7.out HB.out) HOL.out k hlt
                have c1 := nat_at (own_below HX7.out HB.out) HOL.out k2 (by omega)
                have hap := HAP.out k k2 hlt (by omega) (by omega)
                rw [HXE.out] at c0 hap
                generalize out.getD k2 0 = y at *
                obtain ⟨b, off, rfl, x0, x1⟩ := sp_at (SlF.below HN7.out HB.out) k hlt
                obtain ⟨_, _, e1, z0, z1⟩ := sp_at (SlF.below HN7.out HB.out) k2 (by omega)
                simp only [Option.some.injEq, Addr.mk.injEq, and_true] at e1
                obtain ⟨rfl, rfl⟩ := e1
                have u0 := later_cell c0
                have u1 := later_cell c1
                have u2 := later_cell x0
                have u3 := later_cell x1
                have u4 := later_cell z0
                have u5 := later_cell z1
                by_cases hxy : x = y
                · have CM := Kp.mk (fun W => meet_any (L.getD k sp0) (L.getD k2 sp0) W (Or.symm (hap hxy)))
                  have t3 : ((x : Int) == (y : Int)) = true := by rw [beq_iff_eq]; omega
                  have t4 : decide ((x : Int) = (y : Int)) = true := decide_eq_true (by rw [hxy])
                  clear hap c0 c1 x0 x1 z0 z1 hxy
                  generalize L.getD k sp0 = s1 at *
                  generalize L.getD k2 sp0 = s2 at *
                  go_wp2
                  refine region_later (by kernel_rfl) (by kernel_rfl) ?_
                  iterate 20 (go_big_quiet_step ((go_at_call 18; exact q_later (CM.out _))))
                  refine wpQuiet_nil ?_
                  rintro w' ⟨xl, rfl⟩
                  have HB8 := Kp.mk (HB.out.trans (xl.le.mono HB.out.size))
                  go_wp2
                  go_roundw
                  case rel => exact ⟨k2 + 1, by omega, by go_num, HB8⟩
                  case measure => simp [intOf]; omega
                · have t3 : ((x : Int) == (y : Int)) = false := by rw [beq_eq_false_iff_ne]; omega
                  have t4 : decide ((x : Int) = (y : Int)) = false := decide_eq_false (by omega)
                  clear hap c0 c1 x0 x1 z0 z1 hxy
                  generalize L.getD k sp0 = s1 at *
                  generalize L.getD k2 sp0 = s2 at *
                  go_wp2
                  refine region_later (by kernel_rfl) (by kernel_rfl) ?_
                  iterate 20 (go_big_quiet_step (fail))
                  refine wpQuiet_nil ?_
                  rintro w' ⟨xl, rfl⟩
                  have HB8 := Kp.mk (HB.out.trans (xl.le.mono HB.out.size))
                  go_wp2
                  go_roundw
                  case rel => exact ⟨k2 + 1, by omega, by go_num, HB8⟩
                  case measure => simp [intOf]; omega
              · obtain rfl : k2 = k := by omega
                go_wp2
                go_roundw
                case rel => exact ⟨k2 + 1, by omega, by go_num, HB⟩
                case measure => simp [intOf]; omega
          · obtain rfl : k = n := by omega
            have HBE := Kp.mk (below_step HB7.out HB.out)
            go_wp2
            go_ret
            exact ⟨rfl, HBE.out⟩

end Go.Proofs.Ytlmdlholmlbcbaa

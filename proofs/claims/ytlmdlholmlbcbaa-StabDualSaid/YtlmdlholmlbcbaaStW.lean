/- StabDual: the walk. -/
import Derived.Test.YtlmdlholmlbcbaaStN
import Derived.Test.YtlmdlholmlbcbaaStD
namespace Go.Proofs.Ytlmdlholmlbcbaa
set_option linter.unusedVariables false
open Go.RowKit

theorem int_at {w : World} {g c n : Nat} {X : List Int} {B : Nat} (h : w.ownsRow B 3 1 (.slice (some ⟨g, 0, none⟩) n c) n (ints X)) (hl : X.length = n) (i : Nat) (hi : i < n) : w.cell? ⟨g, i, none⟩ = some (.int .i64 (X.getD i 0)) := by
  rw [h.cellAt i (by omega)]
  simp only [ints, List.getElem?_map]
  rw [List.getElem?_eq_getElem (by omega), getD_at _ _ (by omega)]
  rfl
set_option maxHeartbeats 1000000 in
theorem meet_any (s t : Spn) (w : World) (h : t.hi < s.lo ∨ s.hi < t.lo) :
    Calls Try.prog 18 #[.agg #[.int .i64 s.lo, .int .i64 s.hi], .agg #[.int .i64 t.lo, .int .i64 t.hi]] w fun e w' => e = .returned (.bool false) ∧ Below w.heap.size w w' := by
  obtain ⟨x, y⟩ := s
  obtain ⟨u, v⟩ := t
  dsimp only at h ⊢
  have hb : ∀ o o', Below w.heap.size w ((w.alloc o).alloc o') := fun o o' => below_step (below_alloc (Nat.le_refl _) o) (below_alloc (Nat.le_refl _) o')
  have HB := Kp.mk hb
  clear hb
  by_cases h1 : v < x
  · have t1 : decide (x ≤ v) = false := decide_eq_false (by omega)
    clear h
    go_enter Try.func18, Try.ntmps18
    go_wp2
    go_ret
    exact ⟨rfl, HB.out _ _⟩
  · have t1 : decide (x ≤ v) = true := decide_eq_true (by omega)
    have t2 : decide (u ≤ y) = false := decide_eq_false (by omega)
    clear h
    go_enter Try.func18, Try.ntmps18
    go_wp2
    go_ret
    exact ⟨rfl, HB.out _ _⟩

attribute [local irreducible] GInv
set_option maxRecDepth 100000 in
set_option maxHeartbeats 8000000 in
theorem walk_StabDual (a0 : Option Addr) (len0 cap0 : Nat) (z0 : List Int) (w : World) (w0 : IsRow .i64 w a0 len0 cap0 z0) :
    Calls Try.prog 3 #[.slice a0 len0 cap0] w fun e w' => e = .returned (.bool true) ∧ Below w.heap.size w w' := by
  obtain ⟨l, rfl, hl, wl, nl⟩ := row_sl w0
  have CS := Kp.mk (spans_any a0 cap0 l.length 60 100 l w hl rfl (by unfold maxLen at nl; omega) (by omega) (by omega) (by omega) wl)
  clear w0 hl wl
  go_enter Try.func3, Try.ntmps3
  go_wp2_with fail
  refine CS.out.mono ?_
  rintro e w1 ⟨sa, sc, r, rfl, HR, HO, hb1⟩
  have HB1 := Kp.mk hb1
  have hr80 : r ≤ 60 := by have := HR.out; rw [spsOf_length] at this; omega
  have HBD := Kp.mk (spsOf_bd l 60 100 (by omega))
  have hsz := hb1.size
  generalize spsOf l 60 100 = P at *
  clear hb1 CS
  go_wp2_with (at_builtin; refine wpList_push tSps rfl _ _ rfl w.heap.size sa r sc _ rfl HO.out 1 1 _ rfl rfl ?d1 (by decide) ?d2 (by decide) hsz ?d4)
  case d1 => simp [Value.oneCell']
  case d2 => omega
  case d4 =>
    intro na nc w2 ho2 hb2
    obtain ⟨L, hL⟩ : ∃ L : List Spn, L = P ++ [⟨5, 7⟩] := ⟨_, rfl⟩
    generalize hn : r + 1 = n at *
    have HLL := Kp.mk (show L.length = n by rw [hL, List.length_append, HR.out, ← hn]; rfl)
    have HN2 := Kp.mk (show SlF spL 2 w2 na n nc L from own_slc (show w2.ownsRow w.heap.size 26 2 (.slice na n nc) n (flat spL L) from by
      rw [hL, flat_append]
      have e : flat spL [(⟨5, 7⟩ : Spn)] = [.int .i64 5, .int .i64 7] := by simp [flat, spL]
      rw [e]; exact ho2))
    have HB2 := Kp.mk (HB1.out.trans hb2)
    have HLB := Kp.mk (show ∀ s ∈ L, 0 ≤ s.lo ∧ s.lo ≤ s.hi ∧ s.hi ≤ 9999 from fun s hs => by
      rw [hL] at hs
      rcases List.mem_append.1 hs with hs | hs
      · have := HBD.out _ hs; omega
      · rw [List.mem_singleton.1 hs]; simp)
    have HOK := Kp.mk (show ∀ s ∈ L, s.Ok from fun s hs => by
      have := HLB.out s hs; unfold Spn.Ok; omega)
    have H57 := Kp.mk (show (⟨5, 7⟩ : Spn) ∈ L by rw [hL]; simp)
    have hn81 : n ≤ 81 := by omega
    have hn0 : 0 < n := by omega
    clear ho2 hb2 hL HO hsz HBD hn hr80 HR
    go_wp2_with (at_builtin; refine wpList_cat tSps rfl _ _ rfl w2.heap.size none 0 0 [] rfl (World.ownsRow_nil _ _ _ _) _ _ _ _ rfl HN2.out (flat_one spL_one L) ?e1 (by decide) (Nat.le_refl _) ?e2)
    case e1 => omega
    case e2 =>
      intro ca cc w3 hc hb3
      have HC3 := Kp.mk (show SlF spL 2 w3 ca n cc L from own_slc (by simpa using hc))
      have HN3 := Kp.mk (SlF.below HN2.out hb3)
      have HB3 := Kp.mk (below_step HB2.out hb3)
      clear hc hb3 HN2
      go_wp2_with fail
      refine (Apart_any ca cc n L w3 HC3.out (by omega) hn0 HOK.out).mono ?_
      rintro e w4 ⟨xa, xc, m, out, M, rfl, HX4, HG4, hb4⟩
      have HN4 := Kp.mk (SlF.below HN3.out hb4)
      have HB4 := Kp.mk (below_step HB3.out hb4)
      clear hb4 HN3 HB3 HC3
      go_wp2_with (at_builtin; refine wpList_cat tSps rfl _ _ rfl w4.heap.size none 0 0 [] rfl (World.ownsRow_nil _ _ _ _) _ _ _ _ rfl HN4.out (flat_one spL_one L) ?f1 (by decide) (Nat.le_refl _) ?f2)
      case f1 => omega
      case f2 =>
        intro da dc w5 hc hb5
        have HC5 := Kp.mk (show SlF spL 2 w5 da n dc L from own_slc (by simpa using hc))
        have HN5 := Kp.mk (SlF.below HN4.out hb5)
        have HX5 := Kp.mk (own_below HX4.out hb5)
        have HB5 := Kp.mk (below_step HB4.out hb5)
        clear hc hb5 HN4 HX4 HB4
        go_wp2_with fail
        refine (Nails_any da dc n L w5 HC5.out (by omega) hn0 HOK.out).mono ?_
        rintro e w6 ⟨ya, yc, m', out', M', rfl, HOL', HY6, HG', hb6⟩
        have HN6 := Kp.mk (SlF.below HN5.out hb6)
        have HX6 := Kp.mk (own_below HX5.out hb6)
        have HB6 := Kp.mk (below_step HB5.out hb6)
        have hOL : out.length = m := by
          have h2 := HX6.out.1
          rw [ints_length, List.length_map, Nat.mul_one] at h2
          exact h2
        have hmm : m' = m := by rw [← hOL, ← HOL'.out]; exact ginv_same HG'.out.2 HG4.out.2 HG'.out.1 HG4.out.1
        subst hmm
        have HOL := Kp.mk hOL
        clear hb6 HN5 HX5 HB5 HC5 hOL
        have hG := HG4.out.2
        unfold GInv at hG
        have hm0 : 0 < m' := by have := hG.2.2.1 hn0; have := HOL.out; omega
        have HOn := Kp.mk (show ∀ x ∈ out, x < n from fun x hx => List.mem_range.1 (HG4.out.1.mem_iff.1 (List.mem_of_mem_take (hG.1 x hx))))
        have HOP := Kp.mk hG.2.1
        have z1 : ((m' : Int) == 0) = false := by rw [beq_eq_false_iff_ne]; omega
        have z2 : decide ((m' : Int) = 0) = false := decide_eq_false (by omega)
        clear hG
        have hmb : m' ≤ maxLen := Nat.le_trans (own_slc HX6.out).le (own_slc HX6.out).capm
        unfold maxLen at hmb
        obtain ⟨g1, rfl, _⟩ := own_some HX6.out hm0
        obtain ⟨g2, rfl, _⟩ := own_some HY6.out hm0
        obtain ⟨w7, rfl⟩ : ∃ w7 : World, w7 = w6 := ⟨_, rfl⟩
        go_wp2
        have hG' := HG'.out.2
        unfold GInv at hG'
        have HL6 := Kp.mk (hisL_length L out')
        have hM'n : M'.length = n := by have := HG'.out.1.length_eq; rwa [List.length_range] at this
        have HUP := Kp.mk (show ∀ j, j + 1 < m' → (hisL L out').getD j 0 < (hisL L out').getD (j + 1) 0 from fun j hj => by
          have hol := HOL'.out
          rw [hisL_getD L out' j (by omega), hisL_getD L out' (j + 1) (by omega)]
          have h1 := List.pairwise_iff_getElem.1 hG'.2.1 j (j + 1) (by omega) (by omega) (by omega)
          rw [getD_at out' 0 (by omega : j < out'.length), getD_at out' 0 (by omega : j + 1 < out'.length)]
          have h2 : out'[j + 1] < n := List.mem_range.1 (HG'.out.1.mem_iff.1 (List.mem_of_mem_take (hG'.1 _ (List.getElem_mem _))))
          have h3 := HLB.out (L.getD out'[j + 1] sp0) (by rw [getD_at _ _ (by rw [HLL.out]; exact h2)]; exact List.getElem_mem _)
          omega)
        have HHIT := Kp.mk (show ∀ i, i < n → ∃ kk, kk < m' ∧ (L.getD i sp0).lo ≤ (hisL L out').getD kk 0 ∧ (hisL L out').getD kk 0 ≤ (L.getD i sp0).hi from fun i hi => by
          have hol := HOL'.out
          obtain ⟨t, ht, a1, a2⟩ := hG'.2.2.2 i (by rw [List.take_of_length_le (by omega)]; exact HG'.out.1.mem_iff.2 (List.mem_range.2 hi))
          obtain ⟨q, hq, e⟩ := List.getElem_of_mem ht
          refine ⟨q, by omega, ?_⟩
          rw [hisL_getD L out' q hq, getD_at _ _ hq, e]
          exact ⟨a1, a2⟩)
        have HAP := Kp.mk (show ∀ i j, i < j → j < m' → (L.getD (out.getD i 0) sp0).hi < (L.getD (out.getD j 0) sp0).lo from fun i j hij hj => by
          have hol := HOL.out
          rw [getD_at out 0 (by omega : i < out.length), getD_at out 0 (by omega : j < out.length)]
          exact List.pairwise_iff_getElem.1 HOP.out i j (by omega) (by omega) hij)
        have HON := Kp.mk (show ∀ k, k < m' → out.getD k 0 < n from fun k hk => by
          have hol := HOL.out
          rw [getD_at _ _ (by omega : k < out.length)]; exact HOn.out _ (List.getElem_mem _))
        have HLH := Kp.mk (show (hisL L out').length = m' by rw [HL6.out]; exact HOL'.out)
        clear hG' hM'n
        generalize hisL L out' = Y at *
        go_loopw [8] (fun i wr => ∃ k : Nat, k ≤ m' ∧ i = .int .i64 k ∧ Kp (Below w7.heap.size w7 wr)) (fun i _ => m' - (intOf i).toNat)
        case atStart => exact ⟨0, Nat.zero_le _, rfl, ⟨Below.refl _ _⟩⟩
        case round =>
          obtain ⟨k, hk, rfl, HB⟩ := hrel
          by_cases hlt : k < m'
          · have c0 := nat_at (own_below HX6.out HB.out) HOL.out k hlt
            have hin := HON.out k hlt
            have t1 : decide (((out.getD k 0 : Nat) : Int) < 0) = false := decide_eq_false (by omega)
            have t2 : decide (((out.getD k 0 : Nat) : Int) ≥ (n : Int)) = false := decide_eq_false (by omega)
            have y1 := int_at (own_below HY6.out HB.out) HLH.out k hlt
            have k0 := later_cell c0
            have k1 := later_cell y1
            clear c0 y1
            by_cases hk0 : k = 0
            · subst hk0
              generalize Y.getD 0 0 = y at *
              have HOI := Kp.mk (show ∃ o : Nat, (out.getD 0 0) = o from ⟨_, rfl⟩)
              generalize ((out.getD 0 0 : Nat) : Int) = o at *
              go_wp2
              refine region_later (by kernel_rfl) (by kernel_rfl) ?_
              iterate 30 (go_big_quiet_step (fail))
              refine wpQuiet_nil ?_
              rintro w' ⟨xl, rfl⟩
              have HB5 := Kp.mk (HB.out.trans (xl.le.mono HB.out.size))
              clear HB k0 k1 t1 t2
              go_wp2
              go_loopw [9] (fun q wr => ∃ k2 : Nat, k2 ≤ 0 ∧ q = .int .i64 k2 ∧ Kp (Below w7.heap.size w7 wr)) (fun q _ => 0 - (intOf q).toNat)
              case atStart => exact ⟨0, Nat.zero_le _, rfl, HB5⟩
              case round =>
                obtain ⟨k2, hk2, rfl, HB⟩ := hrel
                obtain rfl : k2 = 0 := by omega
                go_wp2
                go_roundw
                case rel => exact ⟨0 + 1, by omega, by go_num, HB⟩
                case measure => simp [intOf]; omega
            · obtain ⟨j, rfl⟩ : ∃ j, k = j + 1 := ⟨k - 1, by omega⟩
              have y0 := int_at (own_below HY6.out HB.out) HLH.out j (by omega)
              have hup := HUP.out j hlt
              have k2 := later_cell y0
              clear y0
              generalize Y.getD (j + 1) 0 = y at *
              generalize Y.getD j 0 = x at *
              generalize ((out.getD (j + 1) 0 : Nat) : Int) = o at *
              have t3 : decide (x ≥ y) = false := decide_eq_false (by omega)
              have t4 : decide ((((j + 1 : Nat) : Int)) > 0) = true := decide_eq_true (by omega)
              have t5 : decide ((j : Int) + 1 > 0) = true := decide_eq_true (by omega)
              have e2 : IntKind.i64.wrap (((j + 1 : Nat) : Int) - 1) = (j : Nat) := by rw [IntWalk.i64_in _ (by omega)]; omega
              have e3 : IntKind.i64.wrap ((j : Int) + 1 - 1) = (j : Nat) := by rw [IntWalk.i64_in _ (by omega)]; omega
              go_wp2
              refine region_later (by kernel_rfl) (by kernel_rfl) ?_
              iterate 30 (go_big_quiet_step (fail))
              refine wpQuiet_nil ?_
              rintro w' ⟨xl, rfl⟩
              have HB5 := Kp.mk (HB.out.trans (xl.le.mono HB.out.size))
              clear HB k0 k1 k2 t1 t2 t3 t4 t5 e2 e3 hup
              go_wp2
              go_loopw [9] (fun q wr => ∃ k2 : Nat, k2 ≤ j + 1 ∧ q = .int .i64 k2 ∧ Kp (Below w7.heap.size w7 wr)) (fun q _ => j + 1 - (intOf q).toNat)
              case atStart => exact ⟨0, Nat.zero_le _, rfl, HB5⟩
              case round =>
                obtain ⟨k2, hk2, rfl, HB⟩ := hrel
                by_cases hlt2 : k2 < j + 1
                · have c0 := nat_at (own_below HX6.out HB.out) HOL.out (j + 1) hlt
                  have c1 := nat_at (own_below HX6.out HB.out) HOL.out k2 (by omega)
                  have hi1 := HON.out (j + 1) hlt
                  have hi2 := HON.out k2 (by omega)
                  have hap := HAP.out k2 (j + 1) hlt2 hlt
                  generalize out.getD (j + 1) 0 = i1 at *
                  generalize out.getD k2 0 = i2 at *
                  obtain ⟨b, off, rfl, x0, x1⟩ := sp_at (SlF.below HN6.out HB.out) i1 hi1
                  obtain ⟨_, _, e1, z0, z1⟩ := sp_at (SlF.below HN6.out HB.out) i2 hi2
                  simp only [Option.some.injEq, Addr.mk.injEq, and_true] at e1
                  obtain ⟨rfl, rfl⟩ := e1
                  have CM := Kp.mk (fun W => meet_any (L.getD i1 sp0) (L.getD i2 sp0) W (.inl hap))
                  clear hap
                  generalize L.getD i1 sp0 = s1 at *
                  generalize L.getD i2 sp0 = s2 at *
                  have u0 := later_cell c0
                  have u1 := later_cell c1
                  have u2 := later_cell x0
                  have u3 := later_cell x1
                  have u4 := later_cell z0
                  have u5 := later_cell z1
                  clear c0 c1 x0 x1 z0 z1
                  go_wp2
                  refine region_later (by kernel_rfl) (by kernel_rfl) ?_
                  iterate 15 (go_big_quiet_step ((go_at_call 18; exact q_later (CM.out _))))
                  refine wpQuiet_nil ?_
                  rintro w' ⟨xl, rfl⟩
                  have HB8 := Kp.mk (HB.out.trans (xl.le.mono HB.out.size))
                  go_wp2
                  go_roundw
                  case rel => exact ⟨k2 + 1, by omega, by go_num, HB8⟩
                  case measure => simp [intOf]; omega
                · obtain rfl : k2 = j + 1 := by omega
                  go_wp2
                  go_roundw
                  case rel => exact ⟨j + 1 + 1, by omega, by go_num, HB⟩
                  case measure => simp [intOf]; omega
          · obtain rfl : k = m' := by omega
            clear HAP HUP HON
            go_wp2
            go_loopw [10] (fun i wr => ∃ q : Nat, q ≤ n ∧ i = .int .i64 q ∧ Kp (Below w7.heap.size w7 wr)) (fun i _ => n - (intOf i).toNat)
            case atStart => exact ⟨0, Nat.zero_le _, rfl, HB⟩
            case round =>
              clear HB
              obtain ⟨i, hi, rfl, HB⟩ := hrel
              by_cases hlt2 : i < n
              · obtain ⟨kk, hkk, a1, a2⟩ := HHIT.out i hlt2
                have HKK := Kp.mk (And.intro a1 a2)
                clear a1 a2
                go_wp2
                go_loopw [11, 12] (fun xb q wr => ∃ (k2 : Nat) (bb : Bool), k2 ≤ k ∧ q = .int .i64 k2 ∧ xb = .bool bb ∧ Kp (kk < k2 → bb = true) ∧ Kp (Below w7.heap.size w7 wr)) (fun _ q _ => k - (intOf q).toNat)
                case atStart => exact ⟨0, false, Nat.zero_le _, rfl, rfl, ⟨fun h => by omega⟩, HB⟩
                case round =>
                  clear HB
                  obtain ⟨k2, bb, hk2, rfl, rfl, HKB, HB⟩ := hrel
                  by_cases hlt3 : k2 < k
                  · have y1 := int_at (own_below HY6.out HB.out) HLH.out k2 hlt3
                    obtain ⟨b, off, rfl, x0, x1⟩ := sp_at (SlF.below HN6.out HB.out) i hlt2
                    have HKE := Kp.mk (show kk = k2 → (L.getD i sp0).lo ≤ Y.getD k2 0 ∧ Y.getD k2 0 ≤ (L.getD i sp0).hi from fun e => by rw [← e]; exact HKK.out)
                    generalize Y.getD k2 0 = y at *
                    generalize L.getD i sp0 = s at *
                    have u0 := later_cell y1
                    have u1 := later_cell x0
                    have u2 := later_cell x1
                    clear y1 x0 x1
                    have hor : (bb = true ∧ True) ∨ (bb = false ∧ (decide (s.lo ≤ y) = true ∧ decide (y ≤ s.hi) = true)) ∨ (bb = false ∧ decide (s.lo ≤ y) = true ∧ decide (y ≤ s.hi) = false ∧ kk ≠ k2) ∨ (bb = false ∧ decide (s.lo ≤ y) = false ∧ kk ≠ k2) := by
                      cases bb with
                      | true => exact .inl ⟨rfl, trivial⟩
                      | false =>
                        by_cases h1 : s.lo ≤ y
                        · by_cases h2 : y ≤ s.hi
                          · exact .inr (.inl ⟨rfl, decide_eq_true h1, decide_eq_true h2⟩)
                          · exact .inr (.inr (.inl ⟨rfl, decide_eq_true h1, decide_eq_false h2, fun e => h2 (HKE.out e).2⟩))
                        · exact .inr (.inr (.inr ⟨rfl, decide_eq_false h1, fun e => h1 (HKE.out e).1⟩))
                    rcases hor with ⟨rfl, _⟩ | ⟨rfl, t1, t2⟩ | ⟨rfl, t1, t2, hne⟩ | ⟨rfl, t1, hne⟩
                    · go_wp2
                      refine region_later (by kernel_rfl) (by kernel_rfl) ?_
                      iterate 26 (go_big_quiet_step (fail))
                      refine wpQuiet_nil ?_
                      rintro w' ⟨xl, rfl⟩
                      have HB8 := Kp.mk (HB.out.trans (xl.le.mono HB.out.size))
                      go_wp2
                      go_roundw
                      case rel => exact ⟨k2 + 1, true, by omega, by go_num, rfl, ⟨fun _ => rfl⟩, HB8⟩
                      case measure => simp [intOf]; omega
                    · go_wp2
                      refine region_later (by kernel_rfl) (by kernel_rfl) ?_
                      iterate 26 (go_big_quiet_step (fail))
                      refine wpQuiet_nil ?_
                      rintro w' ⟨xl, rfl⟩
                      have HB8 := Kp.mk (HB.out.trans (xl.le.mono HB.out.size))
                      go_wp2
                      go_roundw
                      case rel => exact ⟨k2 + 1, true, by omega, by go_num, rfl, ⟨fun _ => rfl⟩, HB8⟩
                      case measure => simp [intOf]; omega
                    all_goals
                      go_wp2
                      refine region_later (by kernel_rfl) (by kernel_rfl) ?_
                      iterate 26 (go_big_quiet_step (fail))
                      refine wpQuiet_nil ?_
                      rintro w' ⟨xl, rfl⟩
                      have HB8 := Kp.mk (HB.out.trans (xl.le.mono HB.out.size))
                      have HKB2 := Kp.mk (show kk < k2 + 1 → false = true from fun h => HKB.out (by omega))
                      go_wp2
                      go_roundw
                      case rel => exact ⟨k2 + 1, false, by omega, by go_num, rfl, HKB2, HB8⟩
                      case measure => simp [intOf]; omega
                  · obtain rfl : k2 = k := by omega
                    obtain rfl := HKB.out hkk
                    go_wp2
                    go_roundw
                    case rel => exact ⟨i + 1, by omega, by go_num, HB⟩
                    case measure => simp [intOf]; omega
              · obtain rfl : i = n := by omega
                have HBE := Kp.mk (below_step HB6.out HB.out)
                go_wp2
                go_ret
                exact ⟨rfl, HBE.out⟩

end Go.Proofs.Ytlmdlholmlbcbaa

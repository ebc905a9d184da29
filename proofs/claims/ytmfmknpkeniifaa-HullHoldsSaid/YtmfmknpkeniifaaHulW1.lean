/- HullHolds: the walk. -/
import Derived.Test.YtmfmknpkeniifaaHulL
import Derived.Test.YtmfmknpkeniifaaFlatIn
namespace Go.Proofs.Ytmfmknpkeniifaa
set_option linter.unusedVariables false
open Go.RowKit

theorem hull_near {L D : List Pt} (h : IsHull L D) (hN : ∀ p ∈ L, p.Near) : ∀ i, i < D.length → (D.getD i pt0).Near := fun i hi => hN _ (h.sub i hi)
theorem turn_nb {x y z : Pt} (h : turnP x y z = 0) : (turnP x y z != 0) = false := by simp [h]

set_option maxRecDepth 100000 in
set_option maxHeartbeats 16000000 in
theorem walk_HullHolds (a0 : Option Addr) (len0 cap0 : Nat) (z0 : List Int) (w : World) (w0 : IsFlat 3 w a0 len0 cap0 z0) :
    Calls Try.prog 12 #[.slice a0 len0 cap0] w fun e w' => e = .returned (.bool true) ∧ Below w.heap.size w w' := by
  obtain ⟨S, hS, wS, nS⟩ := spots_in w0
  have C1 := Kp.mk (points_any a0 cap0 len0 60 40 S w hS (by unfold maxLen at nS; omega) (by omega) (by omega) (by omega) wS)
  clear w0 hS wS
  go_enter Try.func12, Try.ntmps12
  go_wp2_with fail
  refine C1.out.mono ?_
  rintro e w1 ⟨sa, sc, r, rfl, HR, HO, hb1⟩
  have HB1 := Kp.mk hb1
  have hr60 : r ≤ 60 := by have := HR.out; rw [ptsOf_length] at this; omega
  have HBD := Kp.mk (ptsOf_bd S 60 40 (by omega))
  have hsz := hb1.size
  generalize ptsOf S 60 40 = P at *
  clear hb1 C1
  go_wp2_with (at_builtin; refine wpList_push tPts rfl _ _ rfl w.heap.size sa r sc _ rfl HO.out 1 1 _ rfl rfl ?d1 (by decide) ?d2 (by decide) hsz ?d4)
  case d1 => simp [Value.oneCell']
  case d2 => omega
  case d4 =>
    intro pa pc w2 ho2 hb2
    obtain ⟨L, hL⟩ : ∃ L : List Pt, L = P ++ [⟨3, 5, 0⟩] := ⟨_, rfl⟩
    have HLL := Kp.mk (show L.length = r + 1 by rw [hL, List.length_append, HR.out]; rfl)
    have HO2 := Kp.mk (show w2.ownsRow w.heap.size 26 3 (.slice pa (r + 1) pc) (r + 1) (flat ptL L) from by
      rw [hL, flat_append]
      have e : flat ptL [(⟨3, 5, 0⟩ : Pt)] = [.int .i64 3, .int .i64 5, .int .i64 0] := by simp [flat, ptL]
      rw [e]; exact ho2)
    have HP2 := Kp.mk (show SlF ptL 3 w2 pa (r + 1) pc L from own_slc HO2.out)
    have HB2 := Kp.mk (HB1.out.trans hb2)
    have HNR := Kp.mk (show ∀ p ∈ L, p.Near from fun p hp => by
      rw [hL] at hp
      rcases List.mem_append.1 hp with hp | hp
      · have := HBD.out p hp; unfold Pt.Near; omega
      · rw [List.mem_singleton.1 hp]; unfold Pt.Near; simp)
    have C2 := Kp.mk (fenced_any pa pc r L w2 HP2.out (by omega) HNR.out)
    clear ho2 hb2 hL HO HBD HO2 hsz HR
    go_wp2_with fail
    refine C2.out.mono ?_
    rintro e w3 ⟨fa, n, fc, D, rfl, HH, HD, hn2k, HF, HB3⟩
    have HP3 := Kp.mk (SlF.below HP2.out HB3.out)
    have HBF := Kp.mk (below_step HB2.out HB3.out)
    have HDN := Kp.mk (hull_near HH.out HNR.out)
    have hn0 : 0 < n := by have := HH.out.len; rw [HD.out] at this; exact this
    have hn0f : ((n : Int) == 0) = false := by rw [beq_eq_false_iff_ne]; omega
    have hln := HP3.out.le
    have HLN := Kp.mk (show ∀ k, k < r + 1 → (L.getD k pt0) ∈ L ∧ (L.getD k pt0).Near from fun k hk => by
      rw [getD_at _ _ (by rw [HLL.out]; exact hk)]
      exact ⟨List.getElem_mem _, HNR.out _ (List.getElem_mem _)⟩)
    clear C2 HP2 HB1 HB2 HB3
    obtain ⟨wo, rfl⟩ : ∃ wo : World, wo = w3 := ⟨_, rfl⟩
    obtain ⟨M, hM⟩ : ∃ M, M = r + 1 := ⟨_, rfl⟩
    rw [← hM] at HP3 HLN HLL ⊢
    have hM61 : M ≤ 61 := by omega
    clear hM
    by_cases h3 : n < 3
    · have t3 : decide ((n : Int) < 3) = true := decide_eq_true (by omega)
      have HTH := Kp.mk (HH.out.thin (by rw [HD.out]; exact h3))
      rw [HD.out] at HTH
      go_wp2
      go_loopw [6] (fun i wr => ∃ (k : Nat), k ≤ M ∧ i = .int .i64 k ∧ Kp (Below wo.heap.size wo wr)) (fun i _ => M - (intOf i).toNat)
      case atStart => exact ⟨0, Nat.zero_le _, rfl, ⟨Below.refl _ _⟩⟩
      case round =>
        obtain ⟨k, hk, rfl, HBK⟩ := hrel
        by_cases hlt : k < M
        · obtain ⟨fb, fo, rfl, x0, x1, x2⟩ := pt_cells (SlF.below HF.out HBK.out) 0 hn0
          simp only [Nat.zero_mul, Nat.add_zero] at x0 x1 x2
          obtain ⟨_, _, e1, y0, y1, y2⟩ := pt_cells (SlF.below HF.out HBK.out) (n - 1) (by omega)
          simp only [Option.some.injEq, Addr.mk.injEq, and_true] at e1
          obtain ⟨rfl, rfl⟩ := e1
          obtain ⟨pb, po, rfl, z0, z1, z2⟩ := pt_cells (SlF.below HP3.out HBK.out) k hlt
          have N0 := HDN.out 0 (by rw [HD.out]; omega)
          have N1 := HDN.out (n - 1) (by rw [HD.out]; omega)
          obtain ⟨hmem, N2⟩ := HLN.out k hlt
          have HZ := HTH.out _ hmem
          have CT := Kp.mk (fun W => left_any _ _ _ W N0 N1 N2)
          rw [HZ] at CT
          clear HZ hmem N0 N1 N2
          generalize D.getD 0 pt0 = p0 at *
          generalize D.getD (n - 1) pt0 = p1 at *
          generalize L.getD k pt0 = p2 at *
          have u0 := later_cell x0
          have u1 := later_cell x1
          have u2 := later_cell x2
          have v0 := later_cell y0
          have v1 := later_cell y1
          have v2 := later_cell y2
          have s0 := later_cell z0
          have s1 := later_cell z1
          have s2 := later_cell z2
          clear x0 x1 x2 y0 y1 y2 z0 z1 z2 HTH
          go_wp2
          refine region_later (by kernel_rfl) (by kernel_rfl) ?_
          iterate 14 (go_big_quiet_step ((go_at_call 40; exact q_later (CT.out _))))
          refine wpQuiet_nil ?_
          rintro w' ⟨xl, rfl⟩
          have HBN := Kp.mk (HBK.out.trans (xl.le.mono HBK.out.size))
          clear u0 u1 u2 v0 v1 v2 s0 s1 s2 CT
          go_wp2
          go_roundw
          case rel => exact ⟨k + 1, by omega, by go_num, HBN⟩
          case measure => simp [intOf]; omega
        · obtain rfl : k = M := by omega
          have HBN := Kp.mk (below_step HBF.out HBK.out)
          go_wp2
          go_ret
          exact ⟨rfl, HBN.out⟩
    · have t3 : decide ((n : Int) < 3) = false := decide_eq_false (by omega)
      have HLE := Kp.mk (HH.out.left (by rw [HD.out]; omega))
      have HHO := Kp.mk (HH.out.hold (by rw [HD.out]; omega))
      rw [HD.out] at HLE HHO HDN
      go_wp2
      go_loopw [7] (fun i wr => ∃ (k : Nat), k ≤ n ∧ i = .int .i64 k ∧ Kp (Below wo.heap.size wo wr)) (fun i _ => n - (intOf i).toNat)
      case atStart => exact ⟨0, Nat.zero_le _, rfl, ⟨Below.refl _ _⟩⟩
      case round =>
        obtain ⟨i, hi, rfl, HBI⟩ := hrel
        by_cases hlt : i < n
        · have m1 : (i + 1) % n < n := Nat.mod_lt _ hn0
          have m2 : (i + 2) % n < n := Nat.mod_lt _ hn0
          have HT1 := HLE.out i hlt
          have HT2 := Kp.mk (HHO.out i hlt)
          have q1 : ((i : Int) + 1).tmod n = (((i + 1) % n : Nat) : Int) := by
            rw [show (i : Int) + 1 = ((i + 1 : Nat) : Int) by omega]; exact (Int.ofNat_tmod _ _).symm
          have q2 : ((i : Int) + 2).tmod n = (((i + 2) % n : Nat) : Int) := by
            rw [show (i : Int) + 2 = ((i + 2 : Nat) : Int) by omega]; exact (Int.ofNat_tmod _ _).symm
          have N0 := HDN.out i hlt
          have N1 := HDN.out _ m1
          have N2 := HDN.out _ m2
          have CT := Kp.mk (fun W => left_any _ _ _ W N0 N1 N2)
          have C0 := Kp.mk (fun (W : World) (h : Below wo.heap.size wo W) => pt_cells (SlF.below HF.out h) i hlt)
          have C1 := Kp.mk (fun (W : World) (h : Below wo.heap.size wo W) => pt_cells (SlF.below HF.out h) ((i + 1) % n) m1)
          have C2 := Kp.mk (fun (W : World) (h : Below wo.heap.size wo W) => pt_cells (SlF.below HF.out h) ((i + 2) % n) m2)
          have HX := Kp.mk (And.intro N0 N1)
          clear N0 N1 N2
          generalize D.getD i pt0 = p0 at *
          generalize D.getD ((i + 1) % n) pt0 = p1 at *
          generalize D.getD ((i + 2) % n) pt0 = p2 at *
          generalize (i + 1) % n = i1 at *
          generalize (i + 2) % n = i2 at *
          obtain ⟨fb, fo, rfl, x0, x1, x2⟩ := C0.out wr HBI.out
          obtain ⟨_, _, e1, y0, y1, y2⟩ := C1.out wr HBI.out
          simp only [Option.some.injEq, Addr.mk.injEq, and_true] at e1
          obtain ⟨rfl, rfl⟩ := e1
          obtain ⟨_, _, e1, z0, z1, z2⟩ := C2.out wr HBI.out
          simp only [Option.some.injEq, Addr.mk.injEq, and_true] at e1
          obtain ⟨rfl, rfl⟩ := e1
          obtain ⟨T, hT⟩ : ∃ T, T = turnP p0 p1 p2 := ⟨_, rfl⟩
          rw [← hT] at CT HT1
          clear hT
          have tT : decide (T ≤ 0) = false := decide_eq_false (by omega)
          have u0 := later_cell x0
          have u1 := later_cell x1
          have u2 := later_cell x2
          have v0 := later_cell y0
          have v1 := later_cell y1
          have v2 := later_cell y2
          have s0 := later_cell z0
          have s1 := later_cell z1
          have s2 := later_cell z2
          clear x0 x1 x2 y0 y1 y2 z0 z1 z2
          go_wp2
          refine region_later (by kernel_rfl) (by kernel_rfl) ?_
          iterate 20 (go_big_quiet_step ((go_at_call 40; exact q_later (CT.out _))))
          refine wpQuiet_nil ?_
          rintro w' ⟨xl, rfl⟩
          have HBN := Kp.mk (HBI.out.trans (xl.le.mono HBI.out.size))
          clear u0 u1 u2 v0 v1 v2 s0 s1 s2 CT HBI C2
          generalize xl.val = w5 at *
          obtain ⟨N0, N1⟩ := HX.out
          obtain ⟨wp, rfl⟩ : ∃ wp : World, wp = w5 := ⟨_, rfl⟩
          go_wp2
          go_loopw [8] (fun i wr => ∃ (k : Nat), k ≤ M ∧ i = .int .i64 k ∧ Kp (Below wo.heap.size wo wr)) (fun i _ => M - (intOf i).toNat)
          case atStart => exact ⟨0, Nat.zero_le _, rfl, HBN⟩
          case round =>
            obtain ⟨k, hk, rfl, HBK⟩ := hrel
            by_cases hlt2 : k < M
            · obtain ⟨_, _, e1, x0, x1, x2⟩ := C0.out wr HBK.out
              simp only [Option.some.injEq, Addr.mk.injEq, and_true] at e1
              obtain ⟨rfl, rfl⟩ := e1
              obtain ⟨_, _, e1, y0, y1, y2⟩ := C1.out wr HBK.out
              simp only [Option.some.injEq, Addr.mk.injEq, and_true] at e1
              obtain ⟨rfl, rfl⟩ := e1
              obtain ⟨pb, po, rfl, z0, z1, z2⟩ := pt_cells (SlF.below HP3.out HBK.out) k hlt2
              obtain ⟨hmem, N2⟩ := HLN.out k hlt2
              have HZ := HT2.out _ hmem
              have CT := Kp.mk (fun W => left_any _ _ _ W N0 N1 N2)
              clear hmem N2
              generalize L.getD k pt0 = p2 at *
              obtain ⟨T, hT⟩ : ∃ T, T = turnP p0 p1 p2 := ⟨_, rfl⟩
              rw [← hT] at CT HZ
              clear hT
              have tT : decide (T < 0) = false := decide_eq_false (by omega)
              have u0 := later_cell x0
              have u1 := later_cell x1
              have u2 := later_cell x2
              have v0 := later_cell y0
              have v1 := later_cell y1
              have v2 := later_cell y2
              have s0 := later_cell z0
              have s1 := later_cell z1
              have s2 := later_cell z2
              clear x0 x1 x2 y0 y1 y2 z0 z1 z2
              go_wp2
              refine region_later (by kernel_rfl) (by kernel_rfl) ?_
              iterate 17 (go_big_quiet_step ((go_at_call 40; exact q_later (CT.out _))))
              refine wpQuiet_nil ?_
              rintro w' ⟨xl, rfl⟩
              have HBN2 := Kp.mk (HBK.out.trans (xl.le.mono HBK.out.size))
              clear u0 u1 u2 v0 v1 v2 s0 s1 s2 CT
              go_wp2
              go_roundw
              case rel => exact ⟨k + 1, by omega, by go_num, HBN2⟩
              case measure => simp [intOf]; omega
            · obtain rfl : k = M := by omega
              go_wp2
              go_roundw
              case rel => exact ⟨i + 1, by omega, by go_num, HBK⟩
              case measure => simp [intOf]; omega
        · obtain rfl : i = n := by omega
          have HBN := Kp.mk (below_step HBF.out HBI.out)
          go_wp2
          go_ret
          exact ⟨rfl, HBN.out⟩

end Go.Proofs.Ytmfmknpkeniifaa

/- Spans: the walk of Most. -/
import Derived.Test.YtlmdlholmlbcbaaSmV
import Derived.Test.YtlmdlholmlbcbaaStM
namespace Go.Proofs.Ytlmdlholmlbcbaa
set_option linter.unusedVariables false
open Go.RowKit

attribute [local irreducible] cHi
set_option maxRecDepth 100000 in
set_option maxHeartbeats 8000000 in
theorem most_any (a : Option Addr) (cap n : Nat) (L : List Spn) (w : World) (h : SlF spL 2 w a n cap L) (hn : n ≤ 100) (h0 : 0 < n) (hO : ∀ p ∈ L, p.Ok) :
    Calls Try.prog 20 #[.slice a n cap] w fun e w' => ∃ (many : Nat) (at' : Int), e = .returned (.tuple #[.int .i64 many, .int .i64 at', .int .i64 0]) ∧ Kp (IsMost L n many at') ∧ Below w.heap.size w w' := by
  have egF : ∀ args w, (callFunc 45 args).run Try.prog w = .ok (.enter 45 args) w := enters_of Try.func45 (by kernel_rfl) rfl
  have egL : ∀ args w, (callFunc 46 args).run Try.prog w = .ok (.enter 46 args) w := enters_of Try.func46 (by kernel_rfl) rfl
  have HS := Kp.mk h
  have hl := h.len spL_len (by omega)
  have HLL := Kp.mk hl
  have HOk := Kp.mk (show ∀ i, i < n → (L.getD i sp0).lo ≤ (L.getD i sp0).hi ∧ -1048576 ≤ (L.getD i sp0).lo ∧ (L.getD i sp0).hi ≤ 1048576 from fun i hi => by
    have := hO (L.getD i sp0) (by rw [getD_at _ _ (by omega : i < L.length)]; exact List.getElem_mem _)
    unfold Spn.Ok at this
    omega)
  have HOL := Kp.mk (show ∀ s ∈ L, s.lo ≤ s.hi from fun s hs => by have := hO s hs; unfold Spn.Ok at this; omega)
  have CC := Kp.mk (scheck_any a cap n L w h hn hO)
  have z1 : ((n : Int) == 0) = false := by rw [beq_eq_false_iff_ne]; omega
  have z2 : decide ((n : Int) = 0) = false := decide_eq_false (by omega)
  clear h hO hl
  go_enter Try.func20, Try.ntmps20
  go_wp2_with fail
  refine CC.out.mono ?_
  rintro e w1 ⟨rfl, HB1⟩
  have HS1 := Kp.mk (SlF.below HS.out HB1.out)
  have CH := Kp.mk (places_any 45 Spn.hi high_any egF a cap n L w1 HS1.out (by omega) h0)
  clear CC HS
  go_wp2_with fail
  refine CH.out.mono ?_
  rintro e w2 ⟨sa, sc, M', rfl, HM', HR2, hb2⟩
  have HB2 := Kp.mk (below_step HB1.out hb2)
  have HS2 := Kp.mk (SlF.below HS1.out hb2)
  have CL := Kp.mk (places_any 46 Spn.lo low_any egL a cap n L w2 HS2.out (by omega) h0)
  clear hb2 HS1 CH HB1
  go_wp2_with fail
  refine CL.out.mono ?_
  rintro e w3 ⟨ta, tc, M, rfl, HM, HR3, hb3⟩
  obtain ⟨g1, rfl, _⟩ := own_some HR2.out h0
  obtain ⟨g2, rfl, _⟩ := own_some HR3.out h0
  have HB3 := Kp.mk (below_step HB2.out hb3)
  have HS3 := Kp.mk (SlF.below HS2.out hb3)
  have HR4 := Kp.mk (own_below HR2.out hb3)
  have hsc := (own_slc HR2.out).le
  have hML : M.length = n := by have := HM.out.1.length_eq; rw [List.length_range] at this; exact this
  have hML' : M'.length = n := by have := HM'.out.1.length_eq; rw [List.length_range] at this; exact this
  have HMn := Kp.mk (show ∀ k, k < n → M.getD k 0 < n from fun k hk => by
    rw [getD_at _ _ (by omega : k < M.length)]
    exact List.mem_range.1 (HM.out.1.mem_iff.1 (List.getElem_mem _)))
  have HMn' := Kp.mk (show ∀ k, k < n → M'.getD k 0 < n from fun k hk => by
    rw [getD_at _ _ (by omega : k < M'.length)]
    exact List.mem_range.1 (HM'.out.1.mem_iff.1 (List.getElem_mem _)))
  have HML := Kp.mk hML
  have HML' := Kp.mk hML'
  clear hb3 HS2 CL HB2 HR2 hML hML'
  obtain ⟨wo, rfl⟩ : ∃ wo : World, wo = w3 := ⟨_, rfl⟩
  go_wp2
  go_loopw [2, 3, 6, 7, 23] (fun xm xa xe xo xi wr => ∃ (k q mn : Nat) (av : Int), k ≤ n ∧ q < n ∧ mn ≤ 200 ∧ xi = .int .i64 k ∧ xe = .slice (some ⟨g1, q, none⟩) (n - q) (sc - q) ∧ xo = .int .i64 ((k : Int) - q) ∧ xm = .int .i64 mn ∧ xa = .int .i64 av ∧
      Kp (∀ j, j < q → ∀ k2, k ≤ k2 + 1 → k2 < n → (L.getD (M'.getD j 0) sp0).hi < (L.getD (M.getD k2 0) sp0).lo) ∧
      Kp (∀ k2, k2 < k → k2 + 1 ≤ mn + cHi L (L.getD (M.getD k2 0) sp0).lo) ∧
      Kp ((k = 0 ∧ mn = 0) ∨ ∃ kk, kk < k ∧ mn + cHi L (L.getD (M.getD kk 0) sp0).lo = kk + 1 ∧ av = (L.getD (M.getD kk 0) sp0).lo) ∧ Kp (Below wo.heap.size wo wr)) (fun _ _ _ _ i _ => n - (intOf i).toNat)
  case atStart => exact ⟨0, 0, 0, 0, Nat.zero_le _, h0, by omega, rfl, rfl, rfl, rfl, rfl, ⟨fun j hj => by omega⟩, ⟨fun k hk => by omega⟩, ⟨.inl ⟨rfl, rfl⟩⟩, ⟨Below.refl _ _⟩⟩
  case round =>
    obtain ⟨k, q, mn, av, hk, hq, hmn, rfl, rfl, rfl, rfl, rfl, HQ, HA, HBB, HB⟩ := hrel
    by_cases hlt : k < n
    · have c0 := nat_at (own_below HR3.out HB.out) HML.out k hlt
      have hin := HMn.out k hlt
      obtain ⟨i, hi⟩ : ∃ i, M.getD k 0 = i := ⟨_, rfl⟩
      rw [hi] at c0 hin
      have HI := Kp.mk hi
      have hoi := HOk.out i hin
      have HQ0 := Kp.mk (show ∀ j, j < q → (L.getD (M'.getD j 0) sp0).hi < (L.getD i sp0).lo from fun j hj => by rw [← hi]; exact HQ.out j hj k (by omega) hlt)
      have HFS := Kp.mk (show ∃ jj, jj < n ∧ ¬ (L.getD (M'.getD jj 0) sp0).hi < (L.getD i sp0).lo from by
        have hm : i ∈ M' := HM'.out.1.mem_iff.2 (List.mem_range.2 hin)
        obtain ⟨jj, hjj, e⟩ := List.getElem_of_mem hm
        exact ⟨jj, by rw [← HML'.out]; exact hjj, by rw [getD_at _ _ hjj, e]; omega⟩)
      clear hi HQ
      have e1 : IntKind.i64.wrap ((k : Int) - q + 1) = (k : Int) + 1 - q := by rw [IntWalk.i64_in _ (by omega)]; omega
      go_wp2
      go_loopw [6, 7] (fun xe xo wr => ∃ (q : Nat), q < n ∧ xe = .slice (some ⟨g1, q, none⟩) (n - q) (sc - q) ∧ xo = .int .i64 ((k : Int) + 1 - q) ∧ Kp (∀ j, j < q → (L.getD (M'.getD j 0) sp0).hi < (L.getD i sp0).lo) ∧ Kp (Below wo.heap.size wo wr)) (fun e _ _ => sliceLen e)
      case atStart => exact ⟨q, hq, rfl, rfl, HQ0, HB⟩
      case round =>
        clear HB hq HQ0
        obtain ⟨q, hq, rfl, rfl, HQ, HB⟩ := hrel
        have c1 := nat_at (own_below HR4.out HB.out) HML'.out q hq
        have hjn := HMn'.out q hq
        obtain ⟨jn, hj⟩ : ∃ jn, M'.getD q 0 = jn := ⟨_, rfl⟩
        rw [hj] at c1 hjn
        have HJ := Kp.mk hj
        obtain ⟨b, off, rfl, x0, x1⟩ := sp_at (SlF.below HS3.out HB.out) i hin
        obtain ⟨_, _, e2, y0, y1⟩ := sp_at (SlF.below HS3.out HB.out) jn hjn
        simp only [Option.some.injEq, Addr.mk.injEq, and_true] at e2
        obtain ⟨rfl, rfl⟩ := e2
        have HNEW := Kp.mk (show (L.getD jn sp0).hi < (L.getD i sp0).lo → q + 1 < n ∧ ∀ j, j < q + 1 → (L.getD (M'.getD j 0) sp0).hi < (L.getD i sp0).lo from fun hh => by
          have h2 : ∀ j, j < q + 1 → (L.getD (M'.getD j 0) sp0).hi < (L.getD i sp0).lo := fun j hjq => by
            by_cases e : j = q
            · rw [e, hj]; exact hh
            · exact HQ.out j (by omega)
          obtain ⟨jj, h3, h4⟩ := HFS.out
          refine ⟨?_, h2⟩
          by_cases e : q + 1 < n
          · exact e
          · exact absurd (h2 jj (by omega)) (by omega))
        have HCNT := Kp.mk (show ¬ (L.getD jn sp0).hi < (L.getD i sp0).lo → cHi L (L.getD i sp0).lo = q from fun hh => by
          unfold cHi
          have hLL := HLL.out
          subst hLL
          rw [count_perm L M' HM'.out.1]
          refine count_cut M' (fun j => decide ((L.getD j sp0).hi < (L.getD i sp0).lo)) q (by rw [HML'.out]; omega) (fun j hj2 => decide_eq_true (HQ.out j hj2)) (fun j h1 h2 => decide_eq_false ?_)
          have := up_at HM'.out.2 q j h1 h2
          rw [hj] at this
          omega)
        clear hj
        obtain ⟨lo, hlo⟩ : ∃ lo, (L.getD i sp0).lo = lo := ⟨_, rfl⟩
        obtain ⟨hi2, hhi⟩ : ∃ hi2, (L.getD jn sp0).hi = hi2 := ⟨_, rfl⟩
        rw [hlo] at x0 hoi
        rw [hhi] at y1
        rw [hlo, hhi] at HNEW HCNT
        have HLO := Kp.mk hlo
        rw [hlo] at HQ HFS
        clear hlo hhi y0
        have k0 := later_cell c1
        have k1 := later_cell x0
        have k2 := later_cell y1
        by_cases hd : hi2 < lo
        · have t1 : decide (hi2 < lo) = true := decide_eq_true hd
          obtain ⟨hq1, hq2⟩ := HNEW.out hd
          have HQ2 := Kp.mk hq2
          obtain ⟨d, hdd⟩ : ∃ d, n - q = d + 1 := ⟨n - q - 1, by omega⟩
          obtain ⟨c, hcc⟩ : ∃ c, sc - q = c + 1 := ⟨sc - q - 1, by omega⟩
          rw [hdd, hcc]
          clear hq2 HNEW HCNT hd
          go_wp2
          refine region_later (by kernel_rfl) (by kernel_rfl) ?_
          iterate 13 (go_big_quiet_step (fail))
          refine wpQuiet_nil ?_
          rintro w' ⟨xl, rfl⟩
          have HB5 := Kp.mk (HB.out.trans (xl.le.mono HB.out.size))
          clear HB k0 k1 k2
          go_wp2
          go_roundw
          case rel => exact ⟨q + 1, hq1, by rw [show n - (q + 1) = d by omega, show sc - (q + 1) = c by omega], by simp; omega, ⟨by rw [HLO.out]; exact HQ2.out⟩, HB5⟩
          case measure => simp [sliceLen]
        · have t1 : decide (hi2 < lo) = false := decide_eq_false hd
          have HC := Kp.mk (HCNT.out hd)
          clear HNEW HCNT hd
          go_wp2
          refine region_later (by kernel_rfl) (by kernel_rfl) ?_
          iterate 13 (go_big_quiet_step (fail))
          refine wpQuiet_nil ?_
          rintro w' ⟨xl, rfl⟩
          have HB5 := Kp.mk (HB.out.trans (xl.le.mono HB.out.size))
          have k5 := xl.le.cell (p := ⟨b, off + i * 2, none⟩) (World.block_lt_of_cell? _ _ x0)
          rw [x0] at k5
          generalize xl.val = w5 at *
          have HQN := Kp.mk (show ∀ j, j < q → ∀ k2, k + 1 ≤ k2 + 1 → k2 < n → (L.getD (M'.getD j 0) sp0).hi < (L.getD (M.getD k2 0) sp0).lo from fun j hj k2 h1 h2 => by
            have h3 := HQ.out j hj
            have h4 := up_at HM.out.2 k k2 (by omega) (by rw [HML.out]; exact h2)
            rw [HI.out, HLO.out] at h4
            omega)
          clear HB k0 k1 k2 c0 c1 x0 x1 y1
          by_cases hgt : (mn : Int) < (k : Int) + 1 - q
          · have t2 : decide ((k : Int) + 1 - q > mn) = true := decide_eq_true hgt
            obtain ⟨o, ho⟩ : ∃ o : Nat, (o : Int) = (k : Int) + 1 - q := ⟨((k : Int) + 1 - q).toNat, by omega⟩
            have HA2 := Kp.mk (show ∀ k2, k2 < k + 1 → k2 + 1 ≤ o + cHi L (L.getD (M.getD k2 0) sp0).lo from fun k2 h1 => by
              by_cases e : k2 = k
              · rw [e, HI.out, HLO.out, HC.out]; omega
              · have := HA.out k2 (by omega); omega)
            have HB2 := Kp.mk (show ∃ kk, kk < k + 1 ∧ o + cHi L (L.getD (M.getD kk 0) sp0).lo = kk + 1 ∧ lo = (L.getD (M.getD kk 0) sp0).lo from ⟨k, by omega, by rw [HI.out, HLO.out, HC.out]; omega, by rw [HI.out, HLO.out]⟩)
            have k6 := later_cell k5
            go_wp2
            refine region_later (by kernel_rfl) (by kernel_rfl) ?_
            iterate 8 (go_big_quiet_step (fail))
            refine wpQuiet_nil ?_
            rintro w' ⟨xl, rfl⟩
            have HB6 := Kp.mk (HB5.out.trans (xl.le.mono HB5.out.size))
            go_wp2
            go_roundw
            case rel => exact ⟨k + 1, q, o, lo, by omega, hq, by omega, by go_num, rfl, by simp, by rw [ho], rfl, HQN, HA2, ⟨.inr HB2.out⟩, HB6⟩
            case measure => simp [intOf]; omega
          · have t2 : decide ((k : Int) + 1 - q > mn) = false := decide_eq_false hgt
            have HA2 := Kp.mk (show ∀ k2, k2 < k + 1 → k2 + 1 ≤ mn + cHi L (L.getD (M.getD k2 0) sp0).lo from fun k2 h1 => by
              by_cases e : k2 = k
              · rw [e, HI.out, HLO.out, HC.out]; omega
              · exact HA.out k2 (by omega))
            have HB2 := Kp.mk (show ∃ kk, kk < k + 1 ∧ mn + cHi L (L.getD (M.getD kk 0) sp0).lo = kk + 1 ∧ av = (L.getD (M.getD kk 0) sp0).lo from by
              rcases HBB.out with ⟨h1, h2⟩ | ⟨kk, h1, h2, h3⟩
              · exfalso
                subst h1; subst h2
                have := HQN.out
                have hq0 : q = 0 ∨ 0 < q := by omega
                rcases hq0 with e | e
                · omega
                · have h5 := HQ.out 0 e
                  have h6 := HMn'.out 0 h0
                  have h7 := HOk.out _ h6
                  have h8 : M'.getD 0 0 ∈ M := HM.out.1.mem_iff.2 (List.mem_range.2 h6)
                  obtain ⟨t, ht, e9⟩ := List.getElem_of_mem h8
                  have h10 := up_at HM.out.2 0 t (by omega) ht
                  rw [HI.out, HLO.out, getD_at M 0 ht, e9] at h10
                  omega
              · exact ⟨kk, by omega, h2, h3⟩)
            go_wp2
            go_roundw
            case rel => exact ⟨k + 1, q, mn, av, by omega, hq, hmn, by go_num, rfl, by simp, rfl, rfl, HQN, HA2, ⟨.inr HB2.out⟩, HB5⟩
            case measure => simp [intOf]; omega
    · obtain rfl : k = n := by omega
      have HBE := Kp.mk (below_step HB3.out HB.out)
      have HLAW := Kp.mk (show IsMost L k mn av from most_law HLL.out HOL.out HM.out.1 HM.out.2 mn av HA.out (by
        rcases HBB.out with ⟨h, _⟩ | h
        · omega
        · exact h))
      go_wp2
      refine bodyPost_ret (v := .tuple #[.int .i64 mn, .int .i64 av, .int .i64 0]) (by simp [results, Try.results20, go_sem]) rfl ?_
      exact ⟨mn, av, rfl, HLAW, HBE.out⟩

end Go.Proofs.Ytlmdlholmlbcbaa

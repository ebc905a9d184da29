/- TopLayers: the walk. -/
import Derived.Test.YtmfmknpkeniifaaTLy
namespace Go.Proofs.Ytmfmknpkeniifaa
set_option linter.unusedVariables false
open Go.RowKit

theorem topPoints_any (a : Option Addr) (cap n : Nat) (L : List Pt) (w : World) (h : SlF ptL 3 w a n cap L) (hn : n ≤ 10000) :
    Calls Try.prog 38 #[.slice a n cap] w fun e w' => ∃ ra rc, e = .returned (.slice ra n rc) ∧ Kp (SlF ptL 3 w' ra n rc L) ∧ Below w.heap.size w w' := by
  have H := Kp.mk h
  clear h
  go_enter Try.func38, Try.ntmps38
  go_wp2_with (at_builtin; refine wpList_cat tPts rfl _ _ rfl w.heap.size none 0 0 [] rfl (World.ownsRow_nil _ _ _ _) _ _ _ _ rfl H.out (flat_one ptL_one L) ?c1 (by decide) (Nat.le_refl _) ?c2)
  case c1 => omega
  case c2 =>
    intro sa cap' w' hown hbel
    have HS := Kp.mk (show SlF ptL 3 w' sa n cap' L from own_slc (by simpa using hown))
    clear hown
    go_wp2
    go_ret
    exact ⟨sa, cap', rfl, HS, hbel⟩

/-- The greatest of the first k layers. -/
def MaxOf (R : List Nat) (k M : Nat) : Prop := (∀ i, i < k → R.getD i 0 ≤ M) ∧ ((k = 0 ∧ M = 0) ∨ ∃ i, i < k ∧ R.getD i 0 = M)
theorem maxOf_zero (R : List Nat) : MaxOf R 0 0 := ⟨fun i h => by omega, .inl ⟨rfl, rfl⟩⟩
theorem maxOf_succ {R : List Nat} {k M x : Nat} (h : MaxOf R k M) (hx : x = R.getD k 0) : MaxOf R (k + 1) (max M x) := by
  refine ⟨fun i hi => ?_, .inr ?_⟩
  · by_cases e : i = k
    · rw [e, ← hx]; omega
    · have := h.1 i (by omega); omega
  · by_cases e : x ≤ M
    · rcases h.2 with ⟨h1, h2⟩ | ⟨i, h1, h2⟩
      · exact ⟨k, by omega, by rw [← hx]; omega⟩
      · exact ⟨i, by omega, by rw [h2]; omega⟩
    · exact ⟨k, by omega, by rw [← hx]; omega⟩
attribute [irreducible] MaxOf

set_option maxRecDepth 100000 in
set_option maxHeartbeats 8000000 in
theorem walk_TopLayers (a0 : Option Addr) (len0 cap0 : Nat) (z0 : List Int) (a1 : Int) (w : World) (w0 : IsRow .i64 w a0 len0 cap0 z0) (w1 : (Lit.int .i64 a1).wf = true) :
    Calls Try.prog 11 #[.slice a0 len0 cap0, .int .i64 a1] w fun e w' => e = .returned (.bool true) ∧ Below w.heap.size w w' := by
  obtain ⟨l, rfl, hl, wl, nl⟩ := row_sl w0
  obtain ⟨i1, i2⟩ := wf_bd w1
  obtain ⟨q, hq, hql⟩ := pick_nat a1 100 (by omega)
  have CP := Kp.mk (fun W => hq ▸ picked_any a1 100 W (by omega) (by omega) i1 i2)
  have CN := Kp.mk (numbers_any a0 cap0 80 (1 + (q : Int)) l w hl (by unfold maxLen at nl; omega) (by omega) (by omega) (by omega) wl)
  have e1 : IntKind.i64.wrap (1 + (q : Int)) = 1 + (q : Int) := IntWalk.i64_in _ (by omega)
  have HBD := Kp.mk (nums_bd l 80 (1 + (q : Int)) (by omega))
  have HNLE := Kp.mk (nums_length l 80 (1 + (q : Int)))
  clear w0 w1 hl wl hq
  go_enter Try.func11, Try.ntmps11
  go_wp2_with fail
  refine (CP.out _).mono ?_
  rintro e w' ⟨rfl, rfl⟩
  unfold RetI at CN
  go_wp2_with fail
  refine CN.out.mono ?_
  rintro e w1 ⟨sa, sc, rfl, hown, hb1⟩
  have hr80 : (nums l 80 (1 + (q : Int))).length ≤ 80 := by rw [HNLE.out]; omega
  have HO := Kp.mk (show w1.ownsRow w.heap.size 3 1 (.slice sa (nums l 80 (1 + (q : Int))).length sc) (nums l 80 (1 + (q : Int))).length (ints (nums l 80 (1 + (q : Int)))) from hown)
  have HB1 := Kp.mk hb1
  have hsz := hb1.size
  generalize nums l 80 (1 + (q : Int)) = P at *
  generalize hr : P.length = r at *
  have HR := Kp.mk hr
  clear hown hb1 CN CP e1 hr
  go_wp2_with (at_builtin; refine wpList_push tInts rfl _ _ rfl w.heap.size sa r sc _ rfl HO.out 1 1 _ rfl rfl ?d1 (by decide) ?d2 (by decide) hsz ?d4)
  case d1 => simp [Value.oneCell']
  case d2 => omega
  case d4 =>
    intro na nc w2 ho2 hb2
    obtain ⟨N, hN⟩ : ∃ N : List Int, N = P ++ [3] := ⟨_, rfl⟩
    generalize hn : r + 1 = n at *
    have HNL := Kp.mk (show N.length = n by rw [hN, List.length_append, HR.out, ← hn]; rfl)
    have HN2 := Kp.mk (show SlI w2 na nc N from own_sl_len (show w2.ownsRow w.heap.size 3 1 (.slice na n nc) n (ints N) from by rw [hN, ints_append]; exact ho2) HNL.out)
    have HB2 := Kp.mk (HB1.out.trans hb2)
    have HNB := Kp.mk (show ∀ i, i < n → 0 ≤ N.getD i 0 ∧ N.getD i 0 ≤ 1000 from fun i hi => by
      have hm : N.getD i 0 ∈ N := by rw [getD_at _ _ (by rw [HNL.out]; exact hi)]; exact List.getElem_mem _
      rw [hN] at hm
      rcases List.mem_append.1 hm with hm | hm
      · have := HBD.out _ hm
        rw [← hN] at this
        omega
      · rw [← hN, List.mem_singleton] at hm
        omega)
    have hn81 : n ≤ 81 := by omega
    have hn0 : 0 < n := by omega
    clear ho2 hb2 hN HO hsz HBD hn hr80 HR
    obtain ⟨wo, rfl⟩ : ∃ wo : World, wo = w2 := ⟨_, rfl⟩
    go_wp2
    go_loopw [6, 7] (fun x i wr => ∃ (k : Nat) (ra : Option Addr) (rc : Nat), k ≤ n ∧ i = .int .i64 k ∧ x = .slice ra k rc ∧ Kp (wr.ownsRow wo.heap.size 26 3 (.slice ra k rc) k (flat ptL (lPts N k))) ∧ Kp (Below wo.heap.size wo wr)) (fun _ i _ => n - (intOf i).toNat)
    case atStart => exact ⟨0, none, 0, Nat.zero_le _, rfl, rfl, ⟨by unfold lPts; exact World.ownsRow_nil _ _ _ _⟩, ⟨Below.refl _ _⟩⟩
    case round =>
      obtain ⟨k, ra, rc, hk, rfl, rfl, HX, HB⟩ := hrel
      by_cases hlt : k < n
      · obtain ⟨b, off, rfl, cx⟩ := (HN2.out.below HB.out).at k (by rw [HNL.out]; exact hlt)
        rw [← getD_at N 0 (by rw [HNL.out]; exact hlt)] at cx
        obtain ⟨u1, u2⟩ := HNB.out k hlt
        have HS := Kp.mk (lPts_succ N k)
        generalize N.getD k 0 = x at *
        have e2 : IntKind.i64.wrap (1000 * x) = 1000 * x := IntWalk.i64_in _ (by omega)
        have e3 : IntKind.i64.wrap (1000 * x - k) = 1000 * x - k := IntWalk.i64_in _ (by omega)
        go_wp2_with (at_builtin; refine wpList_push tPts rfl _ _ rfl wo.heap.size ra k rc _ rfl HX.out 1 1 _ rfl rfl ?d1 (by decide) ?d2 (by decide) HB.out.size ?d4)
        case d1 => simp [Value.oneCell']
        case d2 => omega
        case d4 =>
          intro ya yc w4 ho4 hb4
          have HX4 := Kp.mk (show w4.ownsRow wo.heap.size 26 3 (.slice ya (k + 1) yc) (k + 1) (flat ptL (lPts N (k + 1))) from by
            rw [HS.out, flat_append]
            have e : flat ptL [(⟨(k : Int), 1000 * x - k, 0⟩ : Pt)] = [.int .i64 (k : Int), .int .i64 (1000 * x - k), .int .i64 0] := by simp [flat, ptL]
            rw [e]; exact ho4)
          have HB4 := Kp.mk (HB.out.trans hb4)
          clear ho4 hb4 cx
          go_wp2
          go_roundw
          case rel => exact ⟨k + 1, ya, yc, by omega, by go_num, rfl, HX4, HB4⟩
          case measure => simp [intOf]; omega
      · obtain rfl : k = n := by omega
        have HP := Kp.mk (show SlF ptL 3 wr ra k rc (lPts N k) from own_slc HX.out)
        have HNr := Kp.mk (HN2.out.below HB.out)
        have HBw := Kp.mk (HB2.out.trans (HB.out.mono HB2.out.size))
        have HNR := Kp.mk (lPts_near (l := N) (n := k) (by omega) HNB.out)
        have HLAW := Kp.mk (fun (R : List Nat) (h : Lays k (lPts N k) R) => layers_law h HNL.out (by omega) hn0)
        have HLL := Kp.mk (lPts_length N k)
        generalize lPts N k = L at *
        clear HX HB HN2 HB2
        go_wp2_with fail
        refine (copiedT_n na nc k N wr HNr.out HNL.out (by omega)).mono ?_
        rintro e w4 ⟨ca, cc, rfl, hc4, hb4⟩
        have HC4 := Kp.mk hc4
        have HP4 := Kp.mk (SlF.below HP.out hb4)
        have HB4 := Kp.mk (below_step HBw.out hb4)
        clear hc4 hb4 HP HBw HNr
        go_wp2_with fail
        refine (rise_any ca cc k N w4 HC4.out HNL.out (by omega) hn0).mono ?_
        rintro e w5 ⟨xa, xr, xc, rfl, HXL, HXS, hb5⟩
        have HP5 := Kp.mk (SlF.below HP4.out hb5)
        have HB5 := Kp.mk (below_step HB4.out hb5)
        clear hb5 HP4 HB4 HC4 HXS
        go_wp2_with fail
        refine (topPoints_any ra rc k L w5 HP5.out (by omega)).mono ?_
        rintro e w6 ⟨pa, pc, rfl, HP6, hb6⟩
        have HB6 := Kp.mk (below_step HB5.out hb6)
        clear hb6 HP5 HB5
        go_wp2_with fail
        refine (layers_n pa pc k L w6 HP6.out hn0 (by omega) HNR.out).mono ?_
        rintro e w7 ⟨la, lc, R, O, tops, rfl, HRS, HRL, HIO, HI, HB7⟩
        have HF := Kp.mk (lays_of HIO.out HLL.out HI.out)
        have HBF := Kp.mk (below_step HB6.out HB7.out)
        have HRLT := Kp.mk HF.out.lt
        have HLAW2 := Kp.mk (HLAW.out R HF.out)
        clear HIO HI HB7 HB6 HP6 HLAW HNR
        obtain ⟨wp, rfl⟩ : ∃ wp : World, wp = w7 := ⟨_, rfl⟩
        go_wp2
        go_loopw [12, 13] (fun x i wr => ∃ (j M : Nat), j ≤ k ∧ i = .int .i64 j ∧ x = .int .i64 M ∧ Kp (MaxOf R j M) ∧ Kp (Drew wp wr)) (fun _ i _ => k - (intOf i).toNat)
        case atStart => exact ⟨0, 0, Nat.zero_le _, rfl, rfl, ⟨maxOf_zero R⟩, ⟨Drew.refl _⟩⟩
        case round =>
          obtain ⟨j, M, hj, rfl, rfl, HM, HD⟩ := hrel
          by_cases hjk : j < k
          · obtain ⟨b, off, rfl, cx⟩ := nat_cell (SlI.below HRS.out (HD.out.below _)) HRL.out j hjk
            obtain ⟨x, hx⟩ : ∃ x, x = R.getD j 0 := ⟨_, rfl⟩
            have HM2 := Kp.mk (maxOf_succ HM.out hx)
            rw [← hx] at cx
            have em : max (M : Int) x = ((max M x : Nat) : Int) := by omega
            have HEM := Kp.mk em
            clear hx em
            go_wp2
            go_roundw
            case rel => exact ⟨j + 1, max M x, by omega, by go_num, by rw [← HEM.out], HM2, HD⟩
            case measure => simp [intOf]; omega
          · obtain rfl : j = k := by omega
            have hM := HM.out
            unfold MaxOf at hM
            have hx := HLAW2.out M hM.1 (by rcases hM.2 with ⟨h, _⟩ | h; omega; exact h)
            rw [HXL.out] at hx
            subst hx
            have hMl : M ≤ 100 := by
              rcases hM.2 with ⟨_, h⟩ | ⟨i, h1, h2⟩
              · omega
              · have := HRLT.out i h1; omega
            have eM : IntKind.i64.wrap ((M : Int) + 1) = (M : Int) + 1 := IntWalk.i64_in _ (by omega)
            have HBE := Kp.mk (below_step HBF.out (HD.out.below _))
            clear hM HM HLAW2
            go_wp2
            go_ret
            exact ⟨by simp, HBE.out⟩

end Go.Proofs.Ytmfmknpkeniifaa

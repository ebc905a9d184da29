/- TopStab: the walk. -/
import Derived.Test.YtepcmpcnkmfpcaaSpn
import Derived.Test.YtepcmpcnkmfpcaaGrdG
import Derived.StillTailTactics
namespace Go.Proofs.Ytepcmpcnkmfpcaa
set_option linter.unusedVariables false
open Go.RowKit

/-- The points of spans. -/
def stPts (L : List Spn) (k : Nat) : List Pt := (L.take k).map fun s => (⟨s.lo, s.hi, 0⟩ : Pt)
theorem stPts_succ (L : List Spn) (k : Nat) (h : k < L.length) : stPts L (k + 1) = stPts L k ++ [⟨(L.getD k sp0).lo, (L.getD k sp0).hi, 0⟩] := by
  unfold stPts
  rw [List.take_succ_eq_append_getElem h, List.map_append, getD_at L sp0 h]; rfl
theorem stPts_zero (L : List Spn) : stPts L 0 = [] := rfl
theorem stPts_near (L : List Spn) (k : Nat) (h : ∀ s ∈ L, s.Ok) : ∀ p ∈ stPts L k, p.Near := by
  intro p hp
  unfold stPts at hp
  obtain ⟨s, hs, rfl⟩ := List.mem_map.1 hp
  have := h s (List.mem_of_mem_take hs)
  unfold Spn.Ok at this
  unfold Pt.Near
  dsimp only
  omega
theorem stab_law (L : List Spn) (x : Int) (h : ∀ s ∈ L, 0 ≤ s.lo ∧ s.hi ≤ 9999) : cntR (stPts L L.length) (-9) x x 9999 = (hitK L x L.length).length := by
  rw [hitK_count]
  unfold cntR stPts
  rw [List.take_length, List.countP_map]
  apply List.countP_congr
  intro s hs
  have := h s hs
  unfold inR
  simp only [Function.comp, decide_eq_true_eq]
  omega
theorem hit_pos (L : List Spn) (x : Int) (s : Spn) (hs : s ∈ L) (h : s.lo ≤ x ∧ x ≤ s.hi) : 0 < (hitK L x L.length).length := by
  rw [hitK_count, List.countP_pos_iff]
  exact ⟨s, hs, decide_eq_true h⟩
attribute [irreducible] stPts
attribute [local irreducible] cntR

set_option maxRecDepth 100000 in
set_option maxHeartbeats 8000000 in
theorem walk_TopStab (a0 : Option Addr) (len0 cap0 : Nat) (z0 : List Int) (a1 : Int) (w : World) (w0 : IsRow .i64 w a0 len0 cap0 z0) (w1 : (Lit.int .i64 a1).wf = true) :
    Calls Try.prog 7 #[.slice a0 len0 cap0, .int .i64 a1] w fun e w' => e = .returned (.bool true) ∧ Below w.heap.size w w' := by
  obtain ⟨l, rfl, hl, wl, nl⟩ := row_sl w0
  obtain ⟨i1, i2⟩ := wf_bd w1
  obtain ⟨q, hq, hql⟩ := pick_nat a1 120 (by omega)
  have CP := Kp.mk (fun W => hq ▸ picked_any a1 120 W (by omega) (by omega) i1 i2)
  have CS := Kp.mk (spans_any a0 cap0 l.length 80 100 l w hl rfl (by unfold maxLen at nl; omega) (by omega) (by omega) (by omega) wl)
  clear w0 w1 hl wl hq
  go_enter Try.func7, Try.ntmps7
  go_wp2_with fail
  refine CS.out.mono ?_
  rintro e w1 ⟨sa, sc, r, rfl, HR, HO, hb1⟩
  have HB1 := Kp.mk hb1
  have hr80 : r ≤ 80 := by have := HR.out; rw [spsOf_length] at this; omega
  have HBD := Kp.mk (spsOf_bd l 80 100 (by omega))
  have hsz := hb1.size
  generalize spsOf l 80 100 = P at *
  clear hb1 CS
  go_wp2_with (at_builtin; refine wpList_push tSps rfl _ _ rfl w.heap.size sa r sc _ rfl HO.out 1 1 _ rfl rfl ?d1 (by decide) ?d2 (by decide) hsz ?d4)
  case d1 => simp [Value.oneCell']
  case d2 => omega
  case d4 =>
    intro na nc w2 ho2 hb2
    obtain ⟨L, hL⟩ : ∃ L : List Spn, L = P ++ [⟨5, 7⟩] := ⟨_, rfl⟩
    generalize hn : r + 1 = n at *
    have HLL := Kp.mk (show L.length = n by rw [hL, List.length_append, HR.out, ← hn]; rfl)
    have HN2 := Kp.mk (show SlF spL 2 w2 na n nc L from own_slc (show w2.ownsRow w.heap.size 48 2 (.slice na n nc) n (flat spL L) from by
      rw [hL, flat_append]
      have e : flat spL [(⟨5, 7⟩ : Spn)] = [.int .i64 5, .int .i64 7] := by simp [flat, spL]
      rw [e]; exact ho2))
    have HB2 := Kp.mk (HB1.out.trans hb2)
    have HLB := Kp.mk (show ∀ s ∈ L, 0 ≤ s.lo ∧ s.lo ≤ s.hi ∧ s.hi ≤ 9999 from fun s hs => by
      rw [hL] at hs
      rcases List.mem_append.1 hs with hs | hs
      · have := HBD.out _ hs; omega
      · rw [List.mem_singleton.1 hs]; simp)
    have HOK := Kp.mk (show ∀ s ∈ L, s.Ok from fun s hs => by
      have := HLB.out s hs; unfold Spn.Ok; omega)
    have H57 := Kp.mk (show (⟨5, 7⟩ : Spn) ∈ L by rw [hL]; simp)
    have hn81 : n ≤ 81 := by omega
    have hn0 : 0 < n := by omega
    clear ho2 hb2 hL HO hsz HBD hn hr80 HR
    obtain ⟨wo, rfl⟩ : ∃ wo : World, wo = w2 := ⟨_, rfl⟩
    go_wp2
    go_loopw [6, 7] (fun x i wr => ∃ (k : Nat) (ra : Option Addr) (rc : Nat), k ≤ n ∧ i = .int .i64 k ∧ x = .slice ra k rc ∧ Kp (wr.ownsRow wo.heap.size 30 3 (.slice ra k rc) k (flat ptL (stPts L k))) ∧ Kp (Below wo.heap.size wo wr)) (fun _ i _ => n - (intOf i).toNat)
    case atStart => exact ⟨0, none, 0, Nat.zero_le _, rfl, rfl, ⟨by rw [stPts_zero]; exact World.ownsRow_nil _ _ _ _⟩, ⟨Below.refl _ _⟩⟩
    case round =>
      obtain ⟨k, ra, rc, hk, rfl, rfl, HX, HB⟩ := hrel
      by_cases hlt : k < n
      · obtain ⟨b, off, rfl, u0, u1⟩ := sp_at HN2.out k hlt
        have HS := Kp.mk (stPts_succ L k (by rw [HLL.out]; exact hlt))
        generalize L.getD k sp0 = s at *
        have hBw : wo.heap.size ≤ wr.heap.size := HB.out.size
        have hbw : b < wo.heap.size := World.block_lt_of_cell? _ _ u0
        have o0 : wr.cell? ⟨b, off + k * 2, none⟩ = some (.int .i64 s.lo) := (HB.out.cell (p := ⟨b, off + k * 2, none⟩) hbw).trans u0
        have o1 : wr.cell? ⟨b, off + k * 2 + 1, none⟩ = some (.int .i64 s.hi) := (HB.out.cell (p := ⟨b, off + k * 2 + 1, none⟩) hbw).trans u1
        have HKS := Kp.mk (fun (w' : World) (hgr : (wr.alloc (.cells #[.int .i64 s.lo, .int .i64 s.hi, .int .i64 0] 30)).drew.grownBy w' (blk ra)) => show w'.cell? ⟨b, off + k * 2, none⟩ = some (.int .i64 s.lo) ∧ w'.cell? ⟨b, off + k * 2 + 1, none⟩ = some (.int .i64 s.hi) from by
          have hbel := pushed_below HX.out hBw hgr
          exact ⟨(hbel.cell (p := ⟨b, off + k * 2, none⟩) hbw).trans o0, (hbel.cell (p := ⟨b, off + k * 2 + 1, none⟩) hbw).trans o1⟩)
        clear u0 u1
        go_wp2
        go_region_held3 (fun w' => w'.cell? ⟨b, off + k * 2, none⟩ = some (.int .i64 s.lo) ∧ w'.cell? ⟨b, off + k * 2 + 1, none⟩ = some (.int .i64 s.hi))
          (first | exact ⟨o0, o1⟩ | go_keep | exact hS7)
          ((refine step_push tPts (by rfl) _ _ (by rfl) wo.heap.size ra k rc _ (by rfl) ((HX.out.alloc _).drew) 1 wr.heap.size _ (heap_alloc_new wr _) (by rfl) (by rfl) (by simp [Value.oneCell']) (by omega) (by omega) (by omega) (by show wo.heap.size ≤ (wr.alloc _).heap.size; rw [alloc_size]; omega) ?_; intro sa' cap' w' hown' hgr hno; have hS7 := HKS.out w' hgr))
        all_goals
          have HX7 := Kp.mk (show w'.ownsRow wo.heap.size 30 3 (.slice sa' (k + 1) cap') (k + 1) (flat ptL (stPts L (k + 1))) from by
            rw [HS.out, flat_append]
            have e : flat ptL [(⟨s.lo, s.hi, 0⟩ : Pt)] = [.int .i64 s.lo, .int .i64 s.hi, .int .i64 0] := by simp [flat, ptL]
            rw [e]; exact hown')
          have HB7 := Kp.mk (HB.out.trans (pushed_below HX.out hBw hgr))
          clear hown' hgr hno hS7
          go_wp2
          go_roundw
          case rel => exact ⟨k + 1, sa', cap', by omega, by go_num, rfl, HX7, HB7⟩
          case measure => simp [intOf]; omega
      · obtain rfl : k = n := by omega
        have HP := Kp.mk (show SlF ptL 3 wr ra k rc (stPts L k) from own_slc HX.out)
        have HNr := Kp.mk (SlF.below HN2.out HB.out)
        have HBw := Kp.mk (HB2.out.trans (HB.out.mono HB2.out.size))
        have HNR := Kp.mk (stPts_near L k HOK.out)
        have HLAW := Kp.mk (show cntR (stPts L k) (-9) q q 9999 = (hitK L q k).length from by
          have := stab_law L q (fun s hs => ⟨(HLB.out s hs).1, (HLB.out s hs).2.2⟩)
          rwa [HLL.out] at this)
        have HFIVE := Kp.mk (show 0 < (hitK L 6 k).length from by
          have := hit_pos L 6 ⟨5, 7⟩ H57.out (by simp)
          rwa [HLL.out] at this)
        generalize stPts L k = M at *
        clear HX HB HN2 HB2
        go_wp2_with fail
        refine (CP.out _).mono ?_
        rintro e w' ⟨rfl, rfl⟩
        go_wp2_with (at_builtin; refine wpList_cat tSps rfl _ _ rfl wr.heap.size none 0 0 [] rfl (World.ownsRow_nil _ _ _ _) _ _ _ _ rfl HNr.out (flat_one spL_one L) ?c1 (by decide) (Nat.le_refl _) ?c2)
        case c1 => omega
        case c2 =>
          intro qa qc w3 hown3 hbel3
          have HQ3 := Kp.mk (show SlF spL 2 w3 qa k qc L from own_slc (by simpa using hown3))
          have HN3 := Kp.mk (SlF.below HNr.out hbel3)
          have HP3 := Kp.mk (SlF.below HP.out hbel3)
          have HB3 := Kp.mk (below_step HBw.out hbel3)
          clear hown3 hbel3 HNr HP HBw CP
          go_wp2_with fail
          refine (stab_any qa qc k L q w3 HQ3.out (by omega) HOK.out).mono ?_
          rintro e w4 ⟨xa, xc, xr, rfl, HXR, HXO, hb4⟩
          have HN4 := Kp.mk (SlF.below HN3.out hb4)
          have HP4 := Kp.mk (SlF.below HP3.out hb4)
          have HB4 := Kp.mk (below_step HB3.out hb4)
          rw [HXR.out] at HLAW
          clear hb4 HN3 HP3 HB3 HQ3 HXO HXR
          have CC := Kp.mk (gcount_all ra rc k M (-9) q q 9999 w4 HP4.out (by omega) HNR.out)
          rw [HLAW.out] at CC
          go_wp2_with fail
          refine CC.out.mono ?_
          rintro e w5 ⟨rfl, hb5⟩
          have HN5 := Kp.mk (SlF.below HN4.out hb5)
          have HB5 := Kp.mk (below_step HB4.out hb5)
          clear hb5 CC HN4 HP4 HB4 HLAW HNR
          go_wp2_with fail
          refine (stab_any na nc k L 6 w5 HN5.out (by omega) HOK.out).mono ?_
          rintro e w6 ⟨ya, yc, yr, rfl, HYR, HYO, hb6⟩
          have HBF := Kp.mk (below_step HB5.out hb6)
          have hy : 0 < yr := by rw [← HYR.out]; exact HFIVE.out
          have hyz : (0 : Int) < yr := by omega
          have t1 : decide ((0 : Int) < yr) = true := decide_eq_true hyz
          clear hb6 HYO HYR HFIVE
          go_wp2
          go_ret
          exact ⟨by simp, HBF.out⟩

end Go.Proofs.Ytepcmpcnkmfpcaa

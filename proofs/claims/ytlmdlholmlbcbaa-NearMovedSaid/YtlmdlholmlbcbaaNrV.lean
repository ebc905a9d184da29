/- NearMoved: the walk. -/
import Derived.Test.YtlmdlholmlbcbaaNrQ
import Derived.Test.YtlmdlholmlbcbaaSame
import Derived.Test.YtlmdlholmlbcbaaKeep
namespace Go.Proofs.Ytlmdlholmlbcbaa
set_option linter.unusedVariables false
open Go.RowKit
open Hp (IsNear IsClosest near_unique near_congr closest_unique closest_congr)

/-- A place, turned and moved. -/
def mv (e : Int) (p : Pt) : Pt := ⟨e - p.y, p.x + 2 * e, 7⟩
/-- What lies where another place was moved to. -/
structure MovedTo (e : Int) (p q : Pt) : Prop where
  x : q.x = e - p.y
  y : q.y = p.x + 2 * e
theorem mv_moved (e : Int) (p : Pt) : MovedTo e p (mv e p) := ⟨rfl, rfl⟩
theorem fdist_moved {e : Int} {p q p' q' : Pt} (hp : MovedTo e p p') (hq : MovedTo e q q') : fdist p' q' = fdist p q := by
  unfold fdist
  rw [hp.x, hp.y, hq.x, hq.y, show e - p.y - (e - q.y) = -(p.y - q.y) by omega, show p.x + 2 * e - (q.x + 2 * e) = p.x - q.x by omega, Int.neg_mul_neg, Int.add_comm]
theorem mvs_getD (e : Int) (L : List Pt) (i : Nat) (hi : i < L.length) : MovedTo e (L.getD i pt0) ((L.map (mv e)).getD i pt0) := by
  rw [getD_at (L.map (mv e)) pt0 (by rw [List.length_map]; exact hi), List.getElem_map, getD_at L pt0 hi]
  exact mv_moved _ _
theorem mvs_snoc (e : Int) (L : List Pt) (i : Nat) (hi : i < L.length) : (L.take (i + 1)).map (mv e) = (L.take i).map (mv e) ++ [mv e (L.getD i pt0)] := by
  rw [List.take_succ_eq_append_getElem hi, List.map_append, getD_at _ _ hi]; rfl
/-- The nearest stay the nearest. -/
theorem near_moved {e X Y : Int} {L : List Pt} {N k : Nat} {a b : List Nat} (hL : L.length = N) (ha : IsNear (fun i => fdist (L.getD i pt0) ⟨X, Y, 0⟩) N k a) (hb : IsNear (fun i => fdist ((L.map (mv e)).getD i pt0) ⟨e - Y, X + 2 * e, 0⟩) N k b) : a = b :=
  near_unique ha (near_congr (fun i hi => fdist_moved (mvs_getD e L i (by omega)) (q := ⟨X, Y, 0⟩) (q' := ⟨e - Y, X + 2 * e, 0⟩) ⟨rfl, rfl⟩) hb)
theorem mvs_getD1 (e : Int) (L : List Pt) (p q : Pt) (hpq : MovedTo e p q) (i : Nat) (hi : i < L.length + 1) : MovedTo e ((L ++ [p]).getD i pt0) ((L.map (mv e) ++ [q]).getD i pt0) := by
  by_cases h : i < L.length
  · have h1 := mvs_getD e L i h
    rw [getD_at L pt0 h, getD_at (L.map (mv e)) pt0 (by rw [List.length_map]; exact h)] at h1
    rw [getD_at (L ++ [p]) pt0 (by rw [List.length_append]; simp; omega), getD_at (L.map (mv e) ++ [q]) pt0 (by rw [List.length_append, List.length_map]; simp; omega), List.getElem_append_left h, List.getElem_append_left (by rw [List.length_map]; exact h)]
    exact h1
  · obtain rfl : i = L.length := by omega
    have e1 : (L ++ [p]).getD L.length pt0 = p := by simp [List.getD]
    have e2 : (L.map (mv e) ++ [q]).getD L.length pt0 = q := by
      rw [show L.length = (L.map (mv e)).length by rw [List.length_map]]; simp [List.getD]
    rw [e1, e2]; exact hpq
/-- The closest stay the closest, and as close. -/
theorem closest_moved {e : Int} {L : List Pt} {N A B A' B' : Nat} {p q : Pt} (hpq : MovedTo e p q) (hL : L.length + 1 = N) (h : IsClosest (dstL (L ++ [p])) N A B) (h' : IsClosest (dstL (L.map (mv e) ++ [q])) N A' B') : A = A' ∧ B = B' ∧ dstL (L ++ [p]) A B = dstL (L.map (mv e) ++ [q]) A' B' := by
  have hd : ∀ a b, a < N → b < N → dstL (L.map (mv e) ++ [q]) a b = dstL (L ++ [p]) a b := fun a b ha hb => fdist_moved (mvs_getD1 e L p q hpq a (by omega)) (mvs_getD1 e L p q hpq b (by omega))
  obtain ⟨h1, h2⟩ := Hp.closest_unique h (Hp.closest_congr hd h')
  subst h1 h2
  refine ⟨rfl, rfl, (hd _ _ ?_ ?_).symm⟩
  · have := h.ab; have := h.bn; omega
  · exact h.bn

theorem blk_ne {g g2 : Nat} (h : g ≠ g2) : ∀ k, blk (some ⟨g, 0, none⟩) = some k → blk (some ⟨g2, 0, none⟩) ≠ some k := fun k hk e =>
  h ((Option.some.inj (show some g = some k from hk)).trans (Option.some.inj (show some g2 = some k from e)).symm)

set_option maxRecDepth 100000 in
set_option maxHeartbeats 8000000 in
theorem walk_NearMoved (a0 : Option Addr) (len0 cap0 : Nat) (z0 : List Int) (a1 a2 a3 a4 : Int) (w : World) (w0 : IsFlat 3 w a0 len0 cap0 z0) (w1 : (Lit.int .i64 a1).wf = true) (w2 : (Lit.int .i64 a2).wf = true) (w3 : (Lit.int .i64 a3).wf = true) (w4 : (Lit.int .i64 a4).wf = true) :
    Calls Try.prog 10 #[.slice a0 len0 cap0, .int .i64 a1, .int .i64 a2, .int .i64 a3, .int .i64 a4] w fun e w' => e = .returned (.bool true) ∧ Below w.heap.size w w' := by
  obtain ⟨S, hS, wS, nS⟩ := spots_in w0
  obtain ⟨i1, i2⟩ := wf_bd w1
  obtain ⟨i3, i4⟩ := wf_bd w2
  obtain ⟨i5, i6⟩ := wf_bd w3
  obtain ⟨i7, i8⟩ := wf_bd w4
  have C1 := Kp.mk (points_any a0 cap0 len0 60 30 S w hS (by unfold maxLen at nS; omega) (by omega) (by omega) (by omega) wS)
  have hX := pick_bd a1 30 (by omega)
  have hY := pick_bd a2 30 (by omega)
  have hK := pick_bd a3 9 (by omega)
  have hE := pick_bd a4 1000 (by omega)
  have CX := Kp.mk (fun W => picked_any a1 30 W (by omega) (by omega) i1 i2)
  have CY := Kp.mk (fun W => picked_any a2 30 W (by omega) (by omega) i3 i4)
  have CK := Kp.mk (fun W => picked_any a3 9 W (by omega) (by omega) i5 i6)
  have CE := Kp.mk (fun W => picked_any a4 1000 W (by omega) (by omega) i7 i8)
  obtain ⟨X, hXe⟩ : ∃ X, pick a1 30 = X := ⟨_, rfl⟩
  obtain ⟨Y, hYe⟩ : ∃ Y, pick a2 30 = Y := ⟨_, rfl⟩
  obtain ⟨k, hKe⟩ : ∃ k : Nat, pick a3 9 = (k : Int) := ⟨(pick a3 9).toNat, by omega⟩
  obtain ⟨E, hEe⟩ : ∃ E, pick a4 1000 = E := ⟨_, rfl⟩
  rw [hXe] at hX CX
  rw [hYe] at hY CY
  rw [hKe] at hK CK
  rw [hEe] at hE CE
  clear w0 hS wS nS w1 w2 w3 w4 i1 i2 i3 i4 i5 i6 i7 i8 hXe hYe hKe hEe
  go_enter Try.func10, Try.ntmps10
  go_wp2_with fail
  refine C1.out.mono ?_
  rintro e w1 ⟨sa, sc, r, rfl, HR, HO, hb1⟩
  have hr60 : r ≤ 60 := by have := HR.out; rw [ptsOf_length] at this; omega
  have HBD := Kp.mk (ptsOf_bd S 60 30 (by omega))
  generalize ptsOf S 60 30 = L0 at *
  have hsz := Kp.mk hb1.size
  have HB1 := Kp.mk hb1
  clear C1 hb1
  go_wp2_with (at_builtin; refine wpList_push tPts rfl _ _ rfl w.heap.size sa r sc _ rfl HO.out 1 1 _ rfl rfl ?d1 (by decide) ?d2 (by decide) hsz.out ?d4)
  case d1 => simp [Value.oneCell']
  case d2 => omega
  case d4 =>
    intro sa2 sc2 w2 hown hbel
    have HLE := Kp.mk (show (L0 ++ [(⟨3, 5, 0⟩ : Pt)]).length = r + 1 by rw [List.length_append, HR.out]; rfl)
    have HO2 := Kp.mk (show w2.ownsRow w.heap.size 41 3 (.slice sa2 (r + 1) sc2) (r + 1) (flat ptL (L0 ++ [(⟨3, 5, 0⟩ : Pt)])) from by
      rw [flat_append]; exact hown)
    have HNB := Kp.mk (show ∀ p ∈ L0 ++ [(⟨3, 5, 0⟩ : Pt)], p.Near ∧ (0 ≤ p.x ∧ p.x < 30) ∧ (0 ≤ p.y ∧ p.y < 30) from fun p hp => by
      rcases List.mem_append.1 hp with hp | hp
      · have := HBD.out p hp; unfold Pt.Near; omega
      · rw [List.mem_singleton.1 hp]; unfold Pt.Near; decide)
    have HB2 := Kp.mk (HB1.out.trans hbel)
    generalize L0 ++ [(⟨3, 5, 0⟩ : Pt)] = L at *
    clear hown hbel HO HR HBD hsz HB1
    obtain ⟨N, hN⟩ : ∃ N, r + 1 = N := ⟨_, rfl⟩
    rw [hN] at HLE HO2 ⊢
    have hN0 : 0 < N ∧ N ≤ 61 := by omega
    clear hN hr60
    have HP2 := Kp.mk (show SlF ptL 3 w2 sa2 N sc2 L from own_slc HO2.out)
    obtain ⟨g, rfl, hgB, hgl⟩ := own_some HO2.out (by omega)
    have hscN : N ≤ sc2 := HP2.out.le
    have HPC := Kp.mk (fun (W : World) (hW : Below w2.heap.size w2 W) (i : Nat) (hi : i < N) => show W.cell? ⟨g, i * 3, none⟩ = some (.int .i64 (L.getD i pt0).x) ∧ W.cell? ⟨g, i * 3 + 1, none⟩ = some (.int .i64 (L.getD i pt0).y) from by
      obtain ⟨_, _, e, _, co⟩ := (SlF.below HP2.out hW).at ptL_len (by omega) i (by rw [HLE.out]; exact hi)
      simp only [Option.some.injEq, Addr.mk.injEq, and_true] at e
      obtain ⟨rfl, rfl⟩ := e
      rw [← getD_at L pt0 (by rw [HLE.out]; exact hi)] at co
      have c0 := co 0 (by omega)
      have c1 := co 1 (by omega)
      rw [Nat.zero_add] at c0 c1
      exact ⟨c0, c1⟩)
    have HXB := Kp.mk (show ∀ i, i < N → (0 ≤ (L.getD i pt0).x ∧ (L.getD i pt0).x < 30) ∧ (0 ≤ (L.getD i pt0).y ∧ (L.getD i pt0).y < 30) from fun i hi => by
      have hm : L.getD i pt0 ∈ L := by rw [getD_at _ _ (by rw [HLE.out]; exact hi)]; exact List.getElem_mem _
      exact (HNB.out _ hm).2)
    obtain ⟨dE, hdE⟩ : ∃ z, 2 * E = z := ⟨_, rfl⟩
    have hdb : 0 ≤ dE ∧ dE < 2000 := by omega
    have e3 : IntKind.i64.wrap (2 * E) = dE := by rw [hdE]; exact IntWalk.i64_in _ (by omega)
    have HDE := Kp.mk hdE
    obtain ⟨B, hB⟩ : ∃ B, w2.heap.size = B := ⟨_, rfl⟩
    have HBQ := Kp.mk hB
    clear hdE hB
    go_wp2_with (first
      | (go_at_call 19; with_reducible refine (CE.out _).mono ?_; rintro e w' ⟨rfl, rfl⟩)
      | fail)
    go_loopw [13, 14] (fun v13 v14 wr => ∃ (i : Nat) (ra : Option Addr) (rc : Nat), i ≤ N ∧ v14 = .int .i64 i ∧ v13 = .slice ra i rc ∧ Kp (wr.ownsRow B 41 3 (.slice ra i rc) i (flat ptL ((L.take i).map (mv E)))) ∧ Kp (Below B w2 wr)) (fun _ v14 _ => N - (intOf v14).toNat)
    case atStart => exact ⟨0, none, 0, Nat.zero_le _, rfl, rfl, ⟨World.ownsRow_nil _ _ _ _⟩, ⟨HBQ.out ▸ Below.refl _ _⟩⟩
    case round =>
      obtain ⟨i, ra, rc, hi, rfl, rfl, HO, HBR⟩ := hrel
      have hBw : B ≤ wr.heap.size := by have := HBR.out.size; rw [HBQ.out] at this; exact this
      by_cases hiN : i < N
      · have hiz : (i : Int) < N := by omega
        have e1 : IntKind.i64.wrap ((i : Int) + 1) = (i : Int) + 1 := IntWalk.i64_in _ (by omega)
        obtain ⟨o0, o1⟩ := HPC.out wr (HBQ.out ▸ HBR.out) i hiN
        obtain ⟨⟨x1, x2⟩, y1, y2⟩ := HXB.out i hiN
        have HSU := Kp.mk (mvs_snoc E L i (by rw [HLE.out]; exact hiN))
        have HMV := Kp.mk (show mv E (L.getD i pt0) = ⟨E - (L.getD i pt0).y, (L.getD i pt0).x + dE, 7⟩ from by unfold mv; rw [HDE.out])
        obtain ⟨px, hpx⟩ : ∃ z, (L.getD i pt0).x = z := ⟨_, rfl⟩
        obtain ⟨py, hpy⟩ : ∃ z, (L.getD i pt0).y = z := ⟨_, rfl⟩
        rw [hpx] at o0 HMV x1 x2
        rw [hpy] at o1 HMV y1 y2
        obtain ⟨u, hu⟩ : ∃ z, E - py = z := ⟨_, rfl⟩
        obtain ⟨v, hv⟩ : ∃ z, px + dE = z := ⟨_, rfl⟩
        rw [hu, hv] at HMV
        have e4 : IntKind.i64.wrap (E - py) = u := by rw [hu]; exact IntWalk.i64_in _ (by omega)
        have e5 : IntKind.i64.wrap (px + dE) = v := by rw [hv]; exact IntWalk.i64_in _ (by omega)
        have hgb : g < B := by have := hgl; rw [HBQ.out] at this; exact this
        have HKS := Kp.mk (fun (w' : World) (hgr : (wr.alloc (.cells #[.int .i64 u, .int .i64 v, .int .i64 7] 41)).drew.grownBy w' (blk ra)) => show w'.cell? ⟨g, i * 3, none⟩ = some (.int .i64 px) ∧ w'.cell? ⟨g, i * 3 + 1, none⟩ = some (.int .i64 py) from by
          have hbel := pushed_below HO.out hBw hgr
          exact ⟨(hbel.cell (p := ⟨g, i * 3, none⟩) hgb).trans o0, (hbel.cell (p := ⟨g, i * 3 + 1, none⟩) hgb).trans o1⟩)
        clear hpx hpy hu hv
        go_wp2
        go_region_held3 (fun w' => w'.cell? ⟨g, i * 3, none⟩ = some (.int .i64 px) ∧ w'.cell? ⟨g, i * 3 + 1, none⟩ = some (.int .i64 py))
          (first | exact ⟨o0, o1⟩ | go_keep | exact hS7)
          ((first
            | (refine step_push tPts (by rfl) _ _ (by rfl) B ra i rc _ (by rfl) ((HO.out.alloc _).drew) 1 wr.heap.size _ (heap_alloc_new wr _) (by rfl) (by rfl) (by simp [Value.oneCell']) (by omega) (by omega) (by omega) (by show B ≤ (wr.alloc _).heap.size; rw [alloc_size]; omega) ?_; intro sa' cap' w' hown' hgr hno; have hS7 := HKS.out w' hgr)
            | fail))
        all_goals
          have HO7 := Kp.mk (show w'.ownsRow B 41 3 (.slice sa' (i + 1) cap') (i + 1) (flat ptL ((L.take (i + 1)).map (mv E))) from by
            rw [HSU.out, flat_append, HMV.out]
            have e : flat ptL [(⟨u, v, 7⟩ : Pt)] = [.int .i64 u, .int .i64 v, .int .i64 7] := by
              simp [flat, ptL]
            rw [e]; exact hown')
          have HB7 := Kp.mk (HBR.out.trans (pushed_below HO.out hBw hgr))
          clear hown' hgr hno hS7
          go_wp2
          go_roundw
          case rel => exact ⟨i + 1, sa', cap', by omega, by go_num, rfl, HO7, HB7⟩
          case measure => simp [intOf]; omega
      · obtain rfl : i = N := by omega
        have HTK := Kp.mk (show L.take i = L from List.take_of_length_le (by rw [HLE.out]; exact Nat.le_refl _))
        rw [HTK.out] at HO
        obtain ⟨g2, rfl, hg2B, hg2l⟩ := own_some HO.out (by omega)
        have HPa := Kp.mk (HP2.out.below (HBQ.out ▸ HBR.out))
        have HOa := Kp.mk (own_below HO2.out (HBQ.out ▸ HBR.out))
        have HPb := Kp.mk (show SlF ptL 3 wr (some ⟨g2, 0, none⟩) i rc (L.map (mv E)) from own_slc HO.out)
        have HLM := Kp.mk (show (L.map (mv E)).length = i by rw [List.length_map, HLE.out])
        have HMN := Kp.mk (show ∀ p ∈ L.map (mv E), p.Near from fun p hp => by
          obtain ⟨q, hq, rfl⟩ := List.mem_map.1 hp
          have h := (HNB.out q hq).2
          unfold mv Pt.Near
          dsimp only
          omega)
        have HBWr := Kp.mk (below_step HB2.out (HBQ.out ▸ HBR.out))
        have e6 : IntKind.i64.wrap (1 + (k : Int)) = (k : Int) + 1 := by rw [show 1 + (k : Int) = (k : Int) + 1 by omega]; exact IntWalk.i64_in _ (by omega)
        obtain ⟨u, hu⟩ : ∃ z, E - Y = z := ⟨_, rfl⟩
        obtain ⟨v, hv⟩ : ∃ z, X + dE = z := ⟨_, rfl⟩
        have e7 : IntKind.i64.wrap (E - Y) = u := by rw [hu]; exact IntWalk.i64_in _ (by omega)
        have e8 : IntKind.i64.wrap (X + dE) = v := by rw [hv]; exact IntWalk.i64_in _ (by omega)
        have HNM := Kp.mk (fun (a b : List Nat) (ha : IsNear (fun i => fdist (L.getD i pt0) ⟨X, Y, 0⟩) i (k + 1) a) (hb : IsNear (fun i => fdist ((L.map (mv E)).getD i pt0) ⟨u, v, 0⟩) i (k + 1) b) => near_moved HLE.out ha (by rw [hu, HDE.out, hv]; exact hb))
        have HKC := Kp.mk (show ((k + 1 : Nat) : Int) = (k : Int) + 1 by omega)
        obtain ⟨m, hm⟩ : ∃ m, min (k + 1) i = m := ⟨_, rfl⟩
        have hmI : min ((k : Int) + 1) (i : Int) = (m : Int) := by omega
        have CN1 := Kp.mk (fun W hx => nearest_any (some ⟨g, 0, none⟩) sc2 i (k + 1) X Y L W hx (by omega) (by omega) (fun p hp => (HNB.out p hp).1) (by omega) (by omega) (by omega) (by omega))
        have CN2 := Kp.mk (fun W hx => nearest_any (some ⟨g2, 0, none⟩) rc i (k + 1) u v (L.map (mv E)) W hx (by omega) (by omega) HMN.out (by omega) (by omega) (by omega) (by omega))
        rw [HKC.out, hm] at CN1 CN2
        clear hu hv
        go_wp2_with (first
          | (go_at_call 19; with_reducible refine (CX.out _).mono ?_; rintro e w' ⟨rfl, rfl⟩)
          | (go_at_call 19; with_reducible refine (CY.out _).mono ?_; rintro e w' ⟨rfl, rfl⟩)
          | (go_at_call 19; with_reducible refine (CK.out _).mono ?_; rintro e w' ⟨rfl, rfl⟩)
          | fail)
        refine (CN1.out _ HPa.out).mono ?_
        rintro e w5 ⟨oa, oc, out, rfl, HIN, HOO, HB5⟩
        have HPb5 := Kp.mk (HPb.out.below HB5.out)
        go_wp2_with fail
        refine (CN2.out _ HPb5.out).mono ?_
        rintro e w6 ⟨oa2, oc2, out2, rfl, HIN2, HOO2, HB6⟩
        have HEQ := Kp.mk (HNM.out _ _ HIN.out HIN2.out)
        have hb56 := below_step HB5.out HB6.out
        have HO6 := Kp.mk (own_below HOa.out hb56)
        have HQ6 := Kp.mk (own_below HO.out hb56)
        have HOO6 := Kp.mk (own_below HOO.out HB6.out)
        have HBW6 := Kp.mk (below_step HBWr.out hb56)
        have hg6 : g < wr.heap.size := Nat.lt_of_lt_of_le (by have := hgl; rw [HBQ.out] at this; exact this) hBw
        have hg65 : wr.heap.size ≤ w5.heap.size := HB5.out.size
        have hsz6 := HBW6.out.size
        have hgg : g ≠ g2 := by have := hgl; rw [HBQ.out] at this; omega
        clear hb56 HPa HOa HPb HPb5 HBWr HOO HB5 HB6 CN1 CN2 HO HNM
        go_wp2_with (at_builtin; refine wpList_pushS tPts (by rfl) _ _ (by rfl) w.heap.size (some ⟨g, 0, none⟩) i sc2 _ (by rfl) HO6.out 1 _ (by rfl) (by rfl) ?d1 ?d2 (by decide) hsz6 ?d4)
        case d1 => simp [Value.oneCell']
        case d2 => omega
        case d4 =>
          intro sa3 sc3 w7 hown3 hgr3 hno3
          have HS3 : SlF ptL 3 w7 sa3 (i + 1) sc3 (L ++ [(⟨9, 1, 0⟩ : Pt)]) := by
            unfold SlF; rw [flat_append]; exact own_slc hown3
          have CC := Kp.mk (closest_any sa3 sc3 (i + 1) (L ++ [(⟨9, 1, 0⟩ : Pt)]) w7 HS3 (by omega) (by omega) (fun p hp => by
            rcases List.mem_append.1 hp with hp | hp
            · exact (HNB.out p hp).1
            · rw [List.mem_singleton.1 hp]; unfold Pt.Near; decide))
          have hm0 : 0 < m := by omega
          obtain ⟨og, rfl, hog, _⟩ := own_some HOO6.out hm0
          obtain ⟨og2, rfl, hog2, _⟩ := own_some HOO2.out hm0
          have HQ7 := Kp.mk (own_keep HQ6.out hgr3 (blk_ne hgg))
          have HO17 := Kp.mk (own_keep HOO6.out hgr3 (blk_ne (by omega)))
          have HO27 := Kp.mk (own_keep HOO2.out hgr3 (blk_ne (by omega)))
          have HBW7 := Kp.mk (HBW6.out.trans (below_of_grown hgr3 hsz6 (fun k hk => by rw [← Option.some.inj (show some g = some k from hk)]; exact hgB)))
          clear HS3 hown3 hgr3 hno3 HO6 HQ6 HOO6 HOO2 HBW6 hsz6
          go_wp2_with fail
          refine CC.out.mono ?_
          rintro e w8 ⟨A, B', rfl, HCL, HB8⟩
          have HQ8 := Kp.mk (own_below HQ7.out HB8.out)
          have HO18 := Kp.mk (own_below HO17.out HB8.out)
          have HO28 := Kp.mk (own_below HO27.out HB8.out)
          have HBW8 := Kp.mk (below_step HBW7.out HB8.out)
          have hal := below_alloc (Nat.le_refl w8.heap.size) (.cells #[.int .i64 (A : Int), .int .i64 (B' : Int)] 54)
          have HX9 := Kp.mk (Box.new w8 #[.int .i64 (A : Int), .int .i64 (B' : Int)] 54)
          have HQ9 := Kp.mk (own_below HQ8.out hal)
          have HO19 := Kp.mk (own_below HO18.out hal)
          have HO29 := Kp.mk (own_below HO28.out hal)
          have HBW9 := Kp.mk (below_step HBW8.out hal)
          clear CC HQ7 HO17 HO27 HBW7 HB8 HQ8 HO18 HO28 HBW8
          go_upto_region 14 with (fail)
          obtain ⟨bp, hbp⟩ : ∃ bp, w8.heap.size = bp := ⟨_, rfl⟩
          obtain ⟨w9, hw9⟩ : ∃ w9, w8.alloc (.cells #[.int .i64 (A : Int), .int .i64 (B' : Int)] 54) = w9 := ⟨_, rfl⟩
          rw [hbp, hw9] at HX9
          rw [hw9] at HQ9 HO19 HO29 HBW9 ⊢
          try simp only [hbp]
          clear hal hbp hw9
          obtain ⟨E1, hE1⟩ : ∃ z, E - 1 = z := ⟨_, rfl⟩
          obtain ⟨D9, hD9⟩ : ∃ z, 9 + dE = z := ⟨_, rfl⟩
          have e9 : IntKind.i64.wrap (E - 1) = E1 := by rw [hE1]; exact IntWalk.i64_in _ (by omega)
          have e10 : IntKind.i64.wrap (9 + dE) = D9 := by rw [hD9]; exact IntWalk.i64_in _ (by omega)
          have HE1 := Kp.mk hE1
          have HD9 := Kp.mk hD9
          have CC := Kp.mk (fun (W : World) (sa4 : Option Addr) (sc4 : Nat) (hx : SlF ptL 3 W sa4 (i + 1) sc4 (L.map (mv E) ++ [(⟨E1, D9, 0⟩ : Pt)])) => closest_any sa4 sc4 (i + 1) (L.map (mv E) ++ [(⟨E1, D9, 0⟩ : Pt)]) W hx (by omega) (by omega) (fun p hp => by
            rcases List.mem_append.1 hp with hp | hp
            · exact HMN.out p hp
            · rw [List.mem_singleton.1 hp]; unfold Pt.Near; dsimp only; omega))
          have HFA := Kp.mk (show ∀ (W : World) (sa4 : Option Addr) (sc4 : Nat), W.ownsRow B 41 3 (.slice sa4 (i + 1) sc4) (i + 1) (flat ptL (L.map (mv E)) ++ [.int .i64 E1, .int .i64 D9, .int .i64 0]) → SlF ptL 3 W sa4 (i + 1) sc4 (L.map (mv E) ++ [(⟨E1, D9, 0⟩ : Pt)]) from fun W sa4 sc4 h => by
            unfold SlF; rw [flat_append]; exact own_slc h)
          have hB9 : B ≤ w9.heap.size := Nat.le_trans hg2B (Nat.le_of_lt (own_lt HQ9.out g2 rfl).2)
          clear hE1 hD9
          go_wp2_with (at_builtin; refine wpList_pushS tPts (by rfl) _ _ (by rfl) B (some ⟨g2, 0, none⟩) i rc _ (by rfl) HQ9.out 1 _ (by rfl) (by rfl) ?p1 ?p2 (by decide) hB9 ?p4)
          case p1 => simp [Value.oneCell']
          case p2 => omega
          case p4 =>
            intro sa4 sc4 w10 hown4 hgr4 hno4
            go_wp2_with fail
            refine (CC.out w10 sa4 sc4 (HFA.out _ _ _ hown4)).mono ?_
            rintro e w11 ⟨A', B2, rfl, HCL2, HB11⟩
            have hg9 : w9.heap.size = w9.heap.size := rfl
            have n1 : g2 ≠ og := by have := HBQ.out; omega
            have n2 : g2 ≠ og2 := by have := HBQ.out; omega
            have HO1a := Kp.mk (own_below (own_keep HO19.out hgr4 (blk_ne n1)) HB11.out)
            have HO2a := Kp.mk (own_below (own_keep HO29.out hgr4 (blk_ne n2)) HB11.out)
            have HX11 := Kp.mk ((box_grow HX9.out hgr4 (row_box HQ9.out HX9.out (by decide))).below HB11.out)
            have HBW11 := Kp.mk (below_step (HBW9.out.trans (below_of_grown hgr4 (Nat.le_trans HB2.out.size (by have := HBQ.out; have := HBR.out.size; have := HBW9.out; omega)) (fun k hk => by rw [← Option.some.inj (show some g2 = some k from hk)]; have := HBQ.out; omega))) HB11.out)
            have HCM := Kp.mk (closest_moved (e := E) (p := ⟨9, 1, 0⟩) (q := ⟨E1, D9, 0⟩) ⟨by have := HE1.out; show E1 = E - 1; omega, by have := HD9.out; have := HDE.out; show D9 = 9 + 2 * E; omega⟩ (by rw [HLE.out]) HCL.out HCL2.out)
            obtain ⟨hA, hB, hdd⟩ := HCM.out
            subst hA hB
            rw [← hdd]
            obtain ⟨D, hD⟩ : ∃ D, dstL (L ++ [(⟨9, 1, 0⟩ : Pt)]) A B' = D := ⟨_, rfl⟩
            rw [hD]
            have hal := below_alloc (Nat.le_refl w11.heap.size) (.cells #[.int .i64 (A : Int), .int .i64 (B' : Int)] 54)
            have HX12 := Kp.mk (HX11.out.below hal)
            have HY12 := Kp.mk (Box.new w11 #[.int .i64 (A : Int), .int .i64 (B' : Int)] 54)
            have HO1b := Kp.mk (own_below HO1a.out hal)
            have HO2b := Kp.mk (own_below HO2a.out hal)
            have HBW12 := Kp.mk (below_step HBW11.out hal)
            obtain ⟨bq, hbq⟩ : ∃ bq, w11.heap.size = bq := ⟨_, rfl⟩
            clear hdd hD HCM HCL HCL2 hown4 hgr4 hno4 HX11 HO1a HO2a HBW11 HB11 HX9 HO19 HO29 HBW9 HQ9 CC HFA
            go_upto_region 15 with (fail)
            obtain ⟨w12, hw12⟩ : ∃ w12, w11.alloc (.cells #[.int .i64 (A : Int), .int .i64 (B' : Int)] 54) = w12 := ⟨_, rfl⟩
            rw [hbq] at HY12
            rw [hw12] at HX12 HY12 HO1b HO2b HBW12 ⊢
            clear hw12 hbq hal
            have hml : out.length = m := by rw [HIN.out.len, hm]
            have hml2 : out2.length = m := by rw [HIN2.out.len, hm]
            have CS := Kp.mk (sameInts_same (some ⟨og, 0, none⟩) (some ⟨og2, 0, none⟩) oc oc2 m (out.map Int.ofNat) (out2.map Int.ofNat) w12 (own_sl_len (by have h := HO1b.out; rw [show natV out = ints (out.map Int.ofNat) by unfold natV ints; rw [List.map_map]; rfl] at h; exact h) (by rw [List.length_map]; exact hml)) (own_sl_len (by have h := HO2b.out; rw [show natV out2 = ints (out2.map Int.ofNat) by unfold natV ints; rw [List.map_map]; rfl] at h; exact h) (by rw [List.length_map]; exact hml2)) (by rw [List.length_map]; exact hml) (by rw [List.length_map]; exact hml2) (by rw [HEQ.out]) (by omega))
            clear HO1b HO2b
            go_wp2_with (first
              | (go_at_call 30; refine CS.out.mono ?_; rintro e w13 ⟨rfl, HB13⟩; have z0 := (HX12.out.below HB13).cell 0 rfl; have z1 := (HX12.out.below HB13).cell 1 rfl; have z2 := (HY12.out.below HB13).cell 0 rfl; have z3 := (HY12.out.below HB13).cell 1 rfl; have HBX := Kp.mk (below_step HBW12.out HB13); clear HB13)
              | fail)
            go_ret
            exact ⟨rfl, HBX.out⟩

end Go.Proofs.Ytlmdlholmlbcbaa

/- Package sky: the walk of Layers. -/
import Derived.Test.YtmfmknpkeniifaaSkyL
namespace Go.Proofs.Ytmfmknpkeniifaa
set_option linter.unusedVariables false
open Go.RowKit

/-- What Layers hands back. -/
def LaysRet (w : World) (n : Nat) (L : List Pt) (e : Ending) (w' : World) : Prop := ∃ ra rc R O tops, e = .returned (.tuple #[.slice ra n rc, .int .i64 0]) ∧ Kp (SlI w' ra rc (R.map Int.ofNat)) ∧ Kp (R.length = n) ∧ Kp (IsOrder L O) ∧ Kp (LayInv (gOf L) (met O n) (layOf R) tops) ∧ Kp (Below w.heap.size w w')

set_option maxRecDepth 100000 in
set_option maxHeartbeats 4000000 in
theorem layers_any (a : Option Addr) (cap m : Nat) (L : List Pt) (w : World) (h : SlF ptL 3 w a (m + 1) cap L) (hm : m + 1 ≤ 150) (hN : ∀ p ∈ L, p.Near) :
    Calls Try.prog 32 #[.slice a (m + 1) cap] w (LaysRet w (m + 1) L) := by
  have HLn := Kp.mk (h.len ptL_len (by omega))
  have H := Kp.mk h
  have CC := Kp.mk (gcheck_any a cap (m + 1) L w h hm hN)
  have HPB := Kp.mk (show ∀ k, blk a = some k → k < w.heap.size from fun k hk => by
    obtain ⟨k', h1, h2⟩ := SlC.lt h (by rw [flat_length ptL_len, HLn.out]; omega)
    rw [h1] at hk; cases hk; exact h2)
  clear h
  go_enter Try.func32, Try.ntmps32
  go_wp2_with fail
  refine CC.out.mono ?_
  rintro e w1 ⟨rfl, HB1⟩
  have HP1 := Kp.mk (H.out.below HB1.out)
  clear CC H
  obtain ⟨n0, hn0⟩ : ∃ n0, n0 = w1.heap.size := ⟨_, rfl⟩
  have hn0le : n0 ≤ w1.heap.size := by omega
  have HN0 := Kp.mk hn0
  clear hn0
  go_wp2_with (at_make; refine wpList_mk1 tInts (by rfl) rfl _ _ rfl n0 (m + 1) rfl rfl ?c1 (by decide) hn0le ?c2)
  case c1 => omega
  case c2 =>
    intro sa gc w2 hown2 hbel2
    obtain ⟨g, rfl, hg1, hg2⟩ := own_some hown2 (by omega)
    have HO2 := Kp.mk (show w2.ownsRow n0 3 1 (.slice (some ⟨g, 0, none⟩) (m + 1) gc) (m + 1) (ints ((List.replicate (m + 1) 0).map Int.ofNat)) from by
      rw [List.map_replicate]; simpa [ints] using hown2)
    have HB2 := Kp.mk hbel2
    have HP2 := Kp.mk (SlF.below HP1.out (show Below w1.heap.size w1 w2 from by rw [← HN0.out]; exact hbel2))
    clear hown2 hbel2
    go_wp2_with fail
    refine (skySorted_any a cap m L w2 HP2.out (by omega)).mono ?_
    rintro e w3 ⟨oa, oc, O, rfl, HIO, HOO, HB3⟩
    obtain ⟨B3, hB3⟩ : ∃ B3, B3 = w3.heap.size := ⟨_, rfl⟩
    have hs23 := HB3.out.size
    have HOL := Kp.mk (show O.length = m + 1 by rw [HIO.out.len, HLn.out])
    have HORD := Kp.mk (own_sl_len HOO.out (by rw [List.length_map]; exact HOL.out))
    have hob := own_lt HOO.out
    have HM := Kp.mk (show LayMem n0 B3 g gc w1 w3 a cap (m + 1) L oa oc O (List.replicate (m + 1) 0) none 0 0 [] from
      ⟨SlF.below HP2.out HB3.out, HORD.out, own_below HO2.out HB3.out, World.ownsRow_nil _ _ _ _, HB2.out.trans (HB3.out.mono (by have := HB2.out.size; rw [HN0.out]; exact this)), fun k hk => by have h1 := HPB.out k hk; have h2 := HB1.out.size; rw [HN0.out]; omega, fun k hk => by
        obtain ⟨h1, h2⟩ := hob k hk
        exact ⟨by rw [hB3]; exact h2, by omega⟩, ⟨hg1, by omega⟩, by omega⟩)
    have HPB1 := Kp.mk (HB1.out.size)
    clear HP1 HP2 HO2 HB2 hob hs23 HOO HORD HB3
    have HB3E := Kp.mk hB3
    clear hB3
    obtain ⟨wo, rfl⟩ : ∃ wo : World, wo = w3 := ⟨_, rfl⟩
    have e0 : IntKind.i64.wrap ((m : Int) + 1 - 1) = (m : Int) := by rw [show (m : Int) + 1 - 1 = m by omega]; exact IntWalk.i64_in _ (by omega)
    go_wp2
    go_loopw [6, 8] (fun tp i wr => ∃ (j : Nat) (ta : Option Addr) (t tc : Nat) (tops : List Int) (R : List Nat), j ≤ m + 1 ∧ i = .int .i64 ((m : Int) - j) ∧ tp = .slice ta t tc ∧ t ≤ j ∧ Kp (R.length = m + 1) ∧ Kp (tops.length = t) ∧ Kp (LayInv (gOf L) (met O j) (layOf R) tops) ∧ Kp (LayMem n0 B3 g gc w1 wr a cap (m + 1) L oa oc O R ta t tc tops)) (fun _ i _ => (intOf i + 1).toNat)
    case atStart => exact ⟨0, none, 0, 0, [], List.replicate (m + 1) 0, by omega, by simp, rfl, by omega, ⟨by simp⟩, ⟨rfl⟩, ⟨LayInv.start _ _⟩, HM⟩
    case round =>
      obtain ⟨j, ta, t, tc, tops, R, hj, rfl, rfl, htj, HR, HT, HI, HMM⟩ := hrel
      by_cases hlt : j < m + 1
      · obtain ⟨q, hq⟩ : ∃ q, q = m - j := ⟨_, rfl⟩
        have hqz : (m : Int) - j = q := by omega
        have hq0 : 0 ≤ (m : Int) - j := by omega
        rw [hqz] at hq0
        rw [hqz]
        have hqm : q < m + 1 := by omega
        obtain ⟨ob, oo, rfl, co⟩ := HMM.out.ord.at q (by rw [List.length_map, HOL.out]; exact hqm)
        have hil := HIO.out.lt q (by rw [HOL.out]; exact hqm)
        rw [HLn.out] at hil
        have e1 : (O.map Int.ofNat)[q]'(by rw [List.length_map, HOL.out]; exact hqm) = ((O.getD q 0 : Nat) : Int) := by
          rw [List.getElem_map, getD_at _ _ (by rw [HOL.out]; exact hqm)]; rfl
        rw [e1] at co
        obtain ⟨pb, po, rfl, hpb, cp⟩ := HMM.out.ps.at ptL_len (by omega) (O.getD q 0) (by rw [HLn.out]; exact hil)
        rw [← getD_at L pt0 (by rw [HLn.out]; exact hil)] at cp
        obtain ⟨i, hi⟩ : ∃ i, i = O.getD q 0 := ⟨_, rfl⟩
        have HIE := Kp.mk hi
        rw [← hi] at co hil cp
        obtain ⟨p, hp⟩ : ∃ p, p = L.getD i pt0 := ⟨_, rfl⟩
        have HPE := Kp.mk hp
        rw [← hp] at cp
        have HQ := Kp.mk hq
        have HQZ := Kp.mk hqz
        have p0 : wr.cell? ⟨pb, po + i * 3, none⟩ = some (.int .i64 p.x) := cp 0 (by omega)
        have p1 : wr.cell? ⟨pb, po + i * 3 + 1, none⟩ = some (.int .i64 p.y) := cp 1 (by omega)
        have p2 : wr.cell? ⟨pb, po + i * 3 + 2, none⟩ = some (.int .i64 p.w) := cp 2 (by omega)
        clear hi hp cp e1 hq hqz
        have hqb : ¬ (q : Int) < 0 := by omega
        have hqn : (q : Int) < (m : Int) + 1 := by omega
        have hin : (i : Int) < (m : Int) + 1 := by omega
        have e2 : IntKind.i64.wrap ((q : Int) + 1) = (q : Int) + 1 := IntWalk.i64_in _ (by omega)
        have hbox := Box.new wr #[.int .i64 p.x, .int .i64 p.y, .int .i64 p.w] 26
        have HMA := Kp.mk (HMM.out.below (below_alloc (Nat.le_refl _) (.cells #[.int .i64 p.x, .int .i64 p.y, .int .i64 p.w] 26)))
        have c0 : (wr.alloc (.cells #[.int .i64 p.x, .int .i64 p.y, .int .i64 p.w] 26)).cell? ⟨wr.heap.size, 0, none⟩ = some (.int .i64 p.x) := hbox.cell 0 rfl
        have c1 : (wr.alloc (.cells #[.int .i64 p.x, .int .i64 p.y, .int .i64 p.w] 26)).cell? ⟨wr.heap.size, 1, none⟩ = some (.int .i64 p.y) := hbox.cell 1 rfl
        have hbel : Below wr.heap.size wr (wr.alloc (.cells #[.int .i64 p.x, .int .i64 p.y, .int .i64 p.w] 26)) := below_alloc (Nat.le_refl _) _
        have coA : (wr.alloc (.cells #[.int .i64 p.x, .int .i64 p.y, .int .i64 p.w] 26)).cell? ⟨ob, oo + q, none⟩ = some (.int .i64 (i : Int)) := (hbel.cell (p := ⟨ob, oo + q, none⟩) (World.block_lt_of_cell? _ _ co)).trans co
        have hgbp : g ≠ wr.heap.size := by have := HMM.out.gb; have := HMM.out.sz; omega
        generalize hbp : wr.heap.size = bp at *
        have HGBP := Kp.mk hgbp
        clear hgbp
        generalize hWA : wr.alloc (.cells #[.int .i64 p.x, .int .i64 p.y, .int .i64 p.w] 26) = WA at *
        by_cases hj0 : j = 0
        · have hq1n : ¬ (q : Int) + 1 < (m : Int) + 1 := by have := HQ.out; omega
          go_wp2
          have HMC := HMA
          have HBXC := Kp.mk hbox
          have coW := coA
          have HNE := Kp.mk (show 0 < j → ¬ ((gOf L (O.getD (q + 1) 0)).x = (gOf L (O.getD q 0)).x ∧ (gOf L (O.getD (q + 1) 0)).y = (gOf L (O.getD q 0)).y) from fun h => by omega)
          clear hbox HMA c0 c1 hbel coA hWA hbp
          generalize WA = W at *
          have HQE := Kp.mk (show m + 1 - 1 - j = q from by have := HQ.out; omega)
          go_loopw [11] (fun i wq => ∃ k : Nat, k ≤ t ∧ i = .int .i64 k ∧ Kp (∀ r, r < k → p.y ≤ tops.getD r 0) ∧ Kp (Drew W wq)) (fun i _ => t - (intOf i).toNat)
          case atStart => exact ⟨0, Nat.zero_le _, rfl, ⟨fun r hr => by omega⟩, ⟨Drew.refl _⟩⟩
          case round =>
            obtain ⟨k, hk, rfl, HK1, HD⟩ := hrel
            have HBXQ := Kp.mk (HBXC.out.below (HD.out.below _))
            have HMQ := Kp.mk (HMC.out.below (HD.out.below _))
            have b1 := HBXQ.out.cell 1 rfl
            have coQ : wr.cell? ⟨ob, oo + q, none⟩ = some (.int .i64 (i : Int)) := (HD.out.cell _).trans coW
            have cR := HMQ.out.outc HR.out i hil
            have fR := HMQ.out.out.frozenAt i
            have hMc : ∃ M : Unit, True := ⟨(), trivial⟩
            clear coW
            obtain rfl : k = t := by omega
            go_wp2
            go_quiet (fail)
            have HMD := Kp.mk (HMQ.out.below (Drew.refl _ |>.more nq |>.below _))
            have coD : (wr.drewN nq).cell? ⟨ob, oo + q, none⟩ = some (.int .i64 (i : Int)) := coQ
            have cRD : (wr.drewN nq).cell? ⟨g, i, none⟩ = some (.int .i64 ((R.getD i 0 : Nat) : Int)) := cR
            have fRD := HMD.out.out.frozenAt i
            have HMS := Kp.mk (HMD.out.put (i := i) (x := k))
            have bxs : Box ((wr.drewN nq).setCell ⟨g, i, none⟩ (.int .i64 (k : Int))) bp #[.int .i64 p.x, .int .i64 p.y, .int .i64 p.w] 26 := box_far (HBXQ.out.below (Drew.refl _ |>.more nq |>.below _)) (by have := HMQ.out.gb; have := HGBP.out; omega)
            have y1 : ((wr.drewN nq).setCell ⟨g, i, none⟩ (.int .i64 (k : Int))).cell? ⟨bp, 1, none⟩ = some (.int .i64 p.y) := bxs.cell 1 rfl
            generalize hWS : (wr.drewN nq).setCell ⟨g, i, none⟩ (.int .i64 (k : Int)) = WS at *
            go_wp2_with (at_builtin; refine wpList_pushS tInts (by rfl) _ _ (by rfl) B3 ta k tc _ (by rfl) HMS.out.tops 1 _ rfl rfl ?d1 ?d2 (by decide) HMS.out.sz ?d4)
            case d1 => simp [Value.oneCell']
            case d2 => omega
            case d4 =>
              intro ya yc w5 ho5 hg5 hn5
              have HM5 := Kp.mk (HMS.out.push (tops' := tops ++ [p.y]) hg5 (by rw [ints_append]; exact ho5))
              have HI5 := Kp.mk (LayInv.put_new (q := k) (tops' := tops ++ [p.y]) HIO.out HLn.out HR.out (by omega) HI.out (by rw [HQE.out]; exact HNE.out) (by rw [HT.out]; exact hk)
                (fun r hr => by rw [HQE.out, ← HIE.out]; unfold gOf; rw [← HPE.out]; exact HK1.out r hr) (fun h => by rw [HT.out] at h; omega)
                (by rw [List.length_append, HT.out, if_pos rfl]; rfl) (fun r hr hr2 => by rw [getD_at _ _ hr2, getD_at _ _ (by rw [List.length_append]; omega), List.getElem_append_left]) (by rw [HQE.out, ← HIE.out]; unfold gOf; rw [← HPE.out, getD_at _ _ (by rw [List.length_append, HT.out]; simp), List.getElem_append_right (by rw [HT.out]; exact Nat.le_refl _)]; simp))
              rw [HQE.out, ← HIE.out] at HI5
              clear ho5 hg5 hn5
              go_wp2
              go_roundw
              case rel => exact ⟨j + 1, ya, k + 1, yc, tops ++ [p.y], R.set i k, by omega, by have := HQZ.out; simp [go_sem]; omega, rfl, by omega, ⟨by rw [List.length_set]; exact HR.out⟩, ⟨by rw [List.length_append, HT.out]; rfl⟩, HI5, HM5⟩
              case measure => simp [intOf]
        · have hq1 : q + 1 < m + 1 := by have := HQ.out; omega
          obtain ⟨_, _, e3, co2⟩ := HMA.out.ord.at (q + 1) (by rw [List.length_map, HOL.out]; exact hq1)
          simp only [Option.some.injEq, Addr.mk.injEq, and_true] at e3
          obtain ⟨rfl, rfl⟩ := e3
          have hil2 := HIO.out.lt (q + 1) (by rw [HOL.out]; exact hq1)
          rw [HLn.out] at hil2
          have e4 : (O.map Int.ofNat)[q + 1]'(by rw [List.length_map, HOL.out]; exact hq1) = ((O.getD (q + 1) 0 : Nat) : Int) := by
            rw [List.getElem_map, getD_at _ _ (by rw [HOL.out]; exact hq1)]; rfl
          rw [e4] at co2
          obtain ⟨_, _, e5, hpb2, cp2⟩ := HMA.out.ps.at ptL_len (by omega) (O.getD (q + 1) 0) (by rw [HLn.out]; exact hil2)
          simp only [Option.some.injEq, Addr.mk.injEq, and_true] at e5
          obtain ⟨rfl, rfl⟩ := e5
          rw [← getD_at L pt0 (by rw [HLn.out]; exact hil2)] at cp2
          obtain ⟨i2, hi2⟩ : ∃ i, i = O.getD (q + 1) 0 := ⟨_, rfl⟩
          have HIE2 := Kp.mk hi2
          rw [← hi2] at co2 hil2 cp2
          obtain ⟨p', hp'⟩ : ∃ p, p = L.getD i2 pt0 := ⟨_, rfl⟩
          have HPE2 := Kp.mk hp'
          rw [← hp'] at cp2
          have q0 : WA.cell? ⟨pb, po + i2 * 3, none⟩ = some (.int .i64 p'.x) := cp2 0 (by omega)
          have q1 : WA.cell? ⟨pb, po + i2 * 3 + 1, none⟩ = some (.int .i64 p'.y) := cp2 1 (by omega)
          have q2 : WA.cell? ⟨pb, po + i2 * 3 + 2, none⟩ = some (.int .i64 p'.w) := cp2 2 (by omega)
          have hq1z : (q : Int) + 1 < (m : Int) + 1 := by omega
          have hin2 : (i2 : Int) < (m : Int) + 1 := by omega
          have hq1n : ¬ (q : Int) + 1 < 0 := by omega
          clear hi2 hp' cp2 e4
          have hboxA : Box WA bp #[.int .i64 p.x, .int .i64 p.y, .int .i64 p.w] 26 := hbox
          have hbelA : Below WA.heap.size WA (WA.alloc (.cells #[.int .i64 p'.x, .int .i64 p'.y, .int .i64 p'.w] 26)) := below_alloc (Nat.le_refl _) _
          have hboxB := Box.new WA #[.int .i64 p'.x, .int .i64 p'.y, .int .i64 p'.w] 26
          have d0 : (WA.alloc (.cells #[.int .i64 p'.x, .int .i64 p'.y, .int .i64 p'.w] 26)).cell? ⟨bp, 0, none⟩ = some (.int .i64 p.x) := (hboxA.below hbelA).cell 0 rfl
          have d1 : (WA.alloc (.cells #[.int .i64 p'.x, .int .i64 p'.y, .int .i64 p'.w] 26)).cell? ⟨bp, 1, none⟩ = some (.int .i64 p.y) := (hboxA.below hbelA).cell 1 rfl
          have g0 : (WA.alloc (.cells #[.int .i64 p'.x, .int .i64 p'.y, .int .i64 p'.w] 26)).cell? ⟨WA.heap.size, 0, none⟩ = some (.int .i64 p'.x) := hboxB.cell 0 rfl
          have g1 : (WA.alloc (.cells #[.int .i64 p'.x, .int .i64 p'.y, .int .i64 p'.w] 26)).cell? ⟨WA.heap.size, 1, none⟩ = some (.int .i64 p'.y) := hboxB.cell 1 rfl
          have coB : (WA.alloc (.cells #[.int .i64 p'.x, .int .i64 p'.y, .int .i64 p'.w] 26)).cell? ⟨ob, oo + q, none⟩ = some (.int .i64 (i : Int)) := (hbelA.cell (p := ⟨ob, oo + q, none⟩) (World.block_lt_of_cell? _ _ coA)).trans coA
          have coB2 : (WA.alloc (.cells #[.int .i64 p'.x, .int .i64 p'.y, .int .i64 p'.w] 26)).cell? ⟨ob, oo + (q + 1), none⟩ = some (.int .i64 (i2 : Int)) := (hbelA.cell (p := ⟨ob, oo + (q + 1), none⟩) (World.block_lt_of_cell? _ _ co2)).trans co2
          have HMB := Kp.mk (HMA.out.below hbelA)
          have hboxP := hboxA.below hbelA
          generalize hWB : WA.alloc (.cells #[.int .i64 p'.x, .int .i64 p'.y, .int .i64 p'.w] 26) = WB at *
          have HBXP := Kp.mk hboxP
          clear hbelA hboxA hboxB hboxP hbel hbox
          by_cases hsame : p'.x = p.x ∧ p'.y = p.y
          · obtain ⟨hsx, hsy⟩ := hsame
            have t1 : (p'.x == p.x) = true := by simpa using hsx
            have t2 : (p'.y == p.y) = true := by simpa using hsy
            have HSX := Kp.mk hsx
            have HSY := Kp.mk hsy
            have cR2 := HMB.out.outc HR.out i2 hil2
            have fR := HMB.out.out.frozenAt i
            have cR := HMB.out.outc HR.out i hil
            clear hsx hsy
            go_wp2
            go_still_tail 14, (by kernel_rfl)
            go_wp2
            have HQE := Kp.mk (show m + 1 - 1 - j = q from by have := HQ.out; omega)
            have hdb : Below WB.heap.size WB WB.drew := (Below.refl _ _).drew
            have HM5 := Kp.mk ((HMB.out.below hdb).put (i := i) (x := R.getD i2 0))
            have HI5 := Kp.mk (LayInv.put_copy HIO.out HLn.out HR.out (by omega) (by omega) HI.out
              (by rw [HQE.out, ← HIE.out, ← HIE2.out]; unfold gOf; rw [← HPE.out, ← HPE2.out]; exact HSX.out) (by rw [HQE.out, ← HIE.out, ← HIE2.out]; unfold gOf; rw [← HPE.out, ← HPE2.out]; exact HSY.out))
            rw [HQE.out, ← HIE.out, ← HIE2.out] at HI5
            go_roundw
            case rel => exact ⟨j + 1, ta, t, tc, tops, R.set i (R.getD i2 0), by omega, by have := HQZ.out; simp [go_sem]; omega, rfl, by omega, ⟨by rw [List.length_set]; exact HR.out⟩, HT, HI5, HM5⟩
            case measure => simp [intOf]
          · have hor : ((p'.x == p.x) = false ∧ Kp True) ∨ ((p'.x == p.x) = true ∧ (p'.y == p.y) = false) := by
              by_cases e : p'.x = p.x
              · exact .inr ⟨by simpa using e, by rw [beq_eq_false_iff_ne]; exact fun e2 => hsame ⟨e, e2⟩⟩
              · exact .inl ⟨by rw [beq_eq_false_iff_ne]; exact e, ⟨trivial⟩⟩
            have HNE := Kp.mk (show 0 < j → ¬ ((gOf L (O.getD (q + 1) 0)).x = (gOf L (O.getD q 0)).x ∧ (gOf L (O.getD (q + 1) 0)).y = (gOf L (O.getD q 0)).y) from fun _ => by
              rw [← HIE.out, ← HIE2.out]; unfold gOf; rw [← HPE.out, ← HPE2.out]; exact hsame)
            clear hsame
            rcases hor with ⟨t1, _⟩ | ⟨t1, t2⟩
            all_goals
              go_wp2
              have HMC := HMB
              have HBXC := HBXP
              have coW := coB
              clear HMB HBXP HMA c0 c1 d0 d1 g0 g1 coA coB coB2 co2 q0 q1 q2 hWA hbp hWB
              generalize WB = W at *
              have HQE := Kp.mk (show m + 1 - 1 - j = q from by have := HQ.out; omega)
              go_loopw [11] (fun i wq => ∃ k : Nat, k ≤ t ∧ i = .int .i64 k ∧ Kp (∀ r, r < k → p.y ≤ tops.getD r 0) ∧ Kp (Drew W wq)) (fun i _ => t - (intOf i).toNat)
              case atStart => exact ⟨0, Nat.zero_le _, rfl, ⟨fun r hr => by omega⟩, ⟨Drew.refl _⟩⟩
              case round =>
                obtain ⟨k, hk, rfl, HK1, HD⟩ := hrel
                have HBXQ := Kp.mk (HBXC.out.below (HD.out.below _))
                have HMQ := Kp.mk (HMC.out.below (HD.out.below _))
                have b1 := HBXQ.out.cell 1 rfl
                have coQ : wr.cell? ⟨ob, oo + q, none⟩ = some (.int .i64 (i : Int)) := (HD.out.cell _).trans coW
                have cR := HMQ.out.outc HR.out i hil
                have fR := HMQ.out.out.frozenAt i
                have hMc : ∃ M : Unit, True := ⟨(), trivial⟩
                clear coW
                by_cases hkt : k < t
                · obtain ⟨tb, rfl, htb1, htb2⟩ := own_some HMQ.out.tops (by omega)
                  have ct := HMQ.out.topc HT.out k hkt
                  have ft := HMQ.out.tops.frozenAt k
                  obtain ⟨y, hy⟩ : ∃ y, y = tops.getD k 0 := ⟨_, rfl⟩
                  have HY := Kp.mk hy
                  rw [← hy] at ct
                  clear hy
                  by_cases hle : p.y ≤ y
                  · have t3 : decide (p.y ≤ y) = true := decide_eq_true hle
                    have HLE := Kp.mk hle
                    clear hle
                    go_wp2
                    go_quiet (fail)
                    have HD2 := Kp.mk (HD.out.more nq)
                    go_wp2
                    go_roundw
                    case rel => exact ⟨k + 1, by omega, by go_num, ⟨fun r hr => by
                      by_cases e : r = k
                      · subst e; rw [← HY.out]; exact HLE.out
                      · exact HK1.out r (by omega)⟩, HD2⟩
                    case measure => simp [intOf]; omega
                  · have t3 : decide (p.y ≤ y) = false := decide_eq_false hle
                    have HLT := Kp.mk (show y < p.y by omega)
                    have hne : ¬ (k : Int) = t := by omega
                    have hne2 : ((k : Int) == t) = false := by simpa using hne
                    have emax : max y p.y = p.y := by omega
                    have hgtb : tb ≠ g := by have := HMQ.out.gb; omega
                    have hrtb : bp < W.heap.size := HBXC.out.lt
                    clear hle
                    go_wp2
                    go_quiet (fail)
                    have HMD := Kp.mk (HMQ.out.below (Drew.refl _ |>.more nq |>.below _))
                    have coD : (wr.drewN nq).cell? ⟨ob, oo + q, none⟩ = some (.int .i64 (i : Int)) := coQ
                    have cRD : (wr.drewN nq).cell? ⟨g, i, none⟩ = some (.int .i64 ((R.getD i 0 : Nat) : Int)) := cR
                    have fRD := HMD.out.out.frozenAt i
                    go_wp2
                    have HMS := Kp.mk (HMD.out.put (i := i) (x := k))
                    have bxs : Box ((wr.drewN nq).setCell ⟨g, i, none⟩ (.int .i64 (k : Int))) bp #[.int .i64 p.x, .int .i64 p.y, .int .i64 p.w] 26 := box_far (HBXQ.out.below (Drew.refl _ |>.more nq |>.below _)) (by have := HGBP.out; omega)
                    have y1 : ((wr.drewN nq).setCell ⟨g, i, none⟩ (.int .i64 (k : Int))).cell? ⟨bp, 1, none⟩ = some (.int .i64 p.y) := bxs.cell 1 rfl
                    have ct2 := HMS.out.topc HT.out k hkt
                    rw [← HY.out] at ct2
                    have ft2 := HMS.out.tops.frozenAt k
                    generalize (wr.drewN nq).setCell ⟨g, i, none⟩ (.int .i64 (k : Int)) = WS at *
                    go_still_tail 10, (by kernel_rfl)
                    go_wp2
                    have hdb : Below WS.heap.size WS WS.drew := (Below.refl _ _).drew
                    have HM5 := Kp.mk ((HMS.out.below hdb).store (i := k) (x := p.y))
                    have HI5 := Kp.mk (LayInv.put_new (q := k) (tops' := tops.set k p.y) HIO.out HLn.out HR.out (by omega) HI.out (by rw [HQE.out]; exact HNE.out) (by rw [HT.out]; exact hk)
                      (fun r hr => by rw [HQE.out, ← HIE.out]; unfold gOf; rw [← HPE.out]; exact HK1.out r hr) (fun _ => by rw [HQE.out, ← HIE.out]; unfold gOf; rw [← HPE.out, ← HY.out]; exact HLT.out)
                      (by rw [List.length_set, HT.out, if_neg (by omega)]) (fun r hr _ => getD_iset_other _ _ _ _ (fun e => hr e.symm)) (by rw [HQE.out, ← HIE.out]; unfold gOf; rw [← HPE.out]; exact getD_iset_same _ _ _ (by rw [HT.out]; exact hkt)))
                    rw [HQE.out, ← HIE.out] at HI5
                    go_roundw
                    case rel => exact ⟨j + 1, some ⟨tb, 0, none⟩, t, tc, tops.set k p.y, R.set i k, by omega, by have := HQZ.out; simp [go_sem]; omega, rfl, by omega, ⟨by rw [List.length_set]; exact HR.out⟩, ⟨by rw [List.length_set]; exact HT.out⟩, HI5, HM5⟩
                    case measure => simp [intOf]
                · obtain rfl : k = t := by omega
                  go_wp2
                  go_quiet (fail)
                  have HMD := Kp.mk (HMQ.out.below (Drew.refl _ |>.more nq |>.below _))
                  have coD : (wr.drewN nq).cell? ⟨ob, oo + q, none⟩ = some (.int .i64 (i : Int)) := coQ
                  have cRD : (wr.drewN nq).cell? ⟨g, i, none⟩ = some (.int .i64 ((R.getD i 0 : Nat) : Int)) := cR
                  have fRD := HMD.out.out.frozenAt i
                  have HMS := Kp.mk (HMD.out.put (i := i) (x := k))
                  have bxs : Box ((wr.drewN nq).setCell ⟨g, i, none⟩ (.int .i64 (k : Int))) bp #[.int .i64 p.x, .int .i64 p.y, .int .i64 p.w] 26 := box_far (HBXQ.out.below (Drew.refl _ |>.more nq |>.below _)) (by have := HMQ.out.gb; have := HGBP.out; omega)
                  have y1 : ((wr.drewN nq).setCell ⟨g, i, none⟩ (.int .i64 (k : Int))).cell? ⟨bp, 1, none⟩ = some (.int .i64 p.y) := bxs.cell 1 rfl
                  generalize hWS : (wr.drewN nq).setCell ⟨g, i, none⟩ (.int .i64 (k : Int)) = WS at *
                  go_wp2_with (at_builtin; refine wpList_pushS tInts (by rfl) _ _ (by rfl) B3 ta k tc _ (by rfl) HMS.out.tops 1 _ rfl rfl ?d1 ?d2 (by decide) HMS.out.sz ?d4)
                  case d1 => simp [Value.oneCell']
                  case d2 => omega
                  case d4 =>
                    intro ya yc w5 ho5 hg5 hn5
                    have HM5 := Kp.mk (HMS.out.push (tops' := tops ++ [p.y]) hg5 (by rw [ints_append]; exact ho5))
                    have HI5 := Kp.mk (LayInv.put_new (q := k) (tops' := tops ++ [p.y]) HIO.out HLn.out HR.out (by omega) HI.out (by rw [HQE.out]; exact HNE.out) (by rw [HT.out]; exact hk)
                      (fun r hr => by rw [HQE.out, ← HIE.out]; unfold gOf; rw [← HPE.out]; exact HK1.out r hr) (fun h => by rw [HT.out] at h; omega)
                      (by rw [List.length_append, HT.out, if_pos rfl]; rfl) (fun r hr hr2 => by rw [getD_at _ _ hr2, getD_at _ _ (by rw [List.length_append]; omega), List.getElem_append_left]) (by rw [HQE.out, ← HIE.out]; unfold gOf; rw [← HPE.out, getD_at _ _ (by rw [List.length_append, HT.out]; simp), List.getElem_append_right (by rw [HT.out]; exact Nat.le_refl _)]; simp))
                    rw [HQE.out, ← HIE.out] at HI5
                    clear ho5 hg5 hn5
                    go_wp2
                    go_roundw
                    case rel => exact ⟨j + 1, ya, k + 1, yc, tops ++ [p.y], R.set i k, by omega, by have := HQZ.out; simp [go_sem]; omega, rfl, by omega, ⟨by rw [List.length_set]; exact HR.out⟩, ⟨by rw [List.length_append, HT.out]; rfl⟩, HI5, HM5⟩
                    case measure => simp [intOf]
      · obtain rfl : j = m + 1 := by omega
        have ez : (m : Int) - ((m + 1 : Nat) : Int) = -1 := by omega
        rw [ez]
        have HOF := Kp.mk (own_sl_len HMM.out.out (by rw [List.length_map]; exact HR.out))
        have HBF := Kp.mk (HB1.out.trans (HMM.out.bel.mono (by rw [HN0.out]; exact HB1.out.size)))
        clear ez
        go_wp2
        refine bodyPost_ret (v := .tuple #[.slice (some ⟨g, 0, none⟩) (m + 1) gc, .int .i64 0]) (by simp [results, Try.results32, go_sem]) rfl ?_
        exact ⟨_, _, R, O, tops, rfl, HOF, HR, HIO, HI, HBF⟩

end Go.Proofs.Ytmfmknpkeniifaa

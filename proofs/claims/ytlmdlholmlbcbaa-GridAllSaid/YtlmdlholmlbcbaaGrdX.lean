/- Package grid: the functions Report, Kth, Top. -/
import Derived.Test.YtlmdlholmlbcbaaGrdR
import Derived.Test.YtlmdlholmlbcbaaGrdH
namespace Go.Proofs.Ytlmdlholmlbcbaa
set_option linter.unusedVariables false
open Go.RowKit
open Hp (Ord HeapF)

set_option maxRecDepth 100000 in
set_option maxHeartbeats 4000000 in
theorem gReport_any (a : Option Addr) (cap n : Nat) (L : List Pt) (X0 Y0 X1 Y1 : Int) (w : World) (h : SlF ptL 3 w a n cap L) (hn : n ≤ 150) (hN : ∀ p ∈ L, p.Near) :
    Calls Try.prog 37 #[.slice a n cap, .agg #[.int .i64 X0, .int .i64 Y0, .int .i64 X1, .int .i64 Y1]] w fun e w' => ∃ ra m rc out, e = .returned (.tuple #[.slice ra m rc, .int .i64 0]) ∧ Kp (IsRep L X0 Y0 X1 Y1 out ∧ out.length = m ∧ m ≤ n) ∧ Kp (w'.ownsRow w.heap.size 3 1 (.slice ra m rc) m (ints (out.map Int.ofNat))) ∧ Kp (Below w.heap.size w w') := by
  have HA := Kp.mk (below_alloc (Nat.le_refl w.heap.size) (.cells #[.int .i64 X0, .int .i64 Y0, .int .i64 X1, .int .i64 Y1] 65))
  have HBX := Kp.mk (Box.new w #[.int .i64 X0, .int .i64 Y0, .int .i64 X1, .int .i64 Y1] 65)
  have H1 := Kp.mk (SlF.below h HA.out)
  have CC := Kp.mk (gcheck_any a cap n L _ H1.out hn hN)
  clear h hN
  go_enter Try.func37, Try.ntmps37
  go_wp2_with fail
  refine CC.out.mono ?_
  rintro e w1 ⟨rfl, HB1⟩
  have H2 := Kp.mk (SlF.below H1.out HB1.out)
  have HX1 := Kp.mk (HBX.out.below HB1.out)
  have HBB1 := Kp.mk (below_step HA.out HB1.out)
  clear CC H1 HBX HA HB1
  have HD := Kp.mk (show Below w1.heap.size w1 w1.drew from (Below.refl _ _).drew)
  have HP := Kp.mk (SlF.below H2.out HD.out)
  obtain ⟨bz, hbz⟩ : ∃ bz, w.heap.size = bz := ⟨_, rfl⟩
  have HBZE := Kp.mk hbz
  have HBZ := Kp.mk (show bz ≤ w1.heap.size from by rw [← hbz]; exact HBB1.out.size)
  rw [hbz] at HX1 HBB1 ⊢
  have x0 : w1.cell? ⟨bz, 0, none⟩ = some (.int .i64 X0) := HX1.out.cell 0 rfl
  have x1 : w1.cell? ⟨bz, 1, none⟩ = some (.int .i64 Y0) := HX1.out.cell 1 rfl
  have x2 : w1.cell? ⟨bz, 2, none⟩ = some (.int .i64 X1) := HX1.out.cell 2 rfl
  have x3 : w1.cell? ⟨bz, 3, none⟩ = some (.int .i64 Y1) := HX1.out.cell 3 rfl
  have HKS := Kp.mk (fun (w' : World) (hb : Below w1.drew.heap.size w1.drew w') => show w'.cell? ⟨bz, 0, none⟩ = some (.int .i64 X0) ∧ w'.cell? ⟨bz, 1, none⟩ = some (.int .i64 Y0) ∧ w'.cell? ⟨bz, 2, none⟩ = some (.int .i64 X1) ∧ w'.cell? ⟨bz, 3, none⟩ = some (.int .i64 Y1) from by
    have hbx := (HX1.out.below HD.out).below hb
    exact ⟨hbx.cell 0 rfl, hbx.cell 1 rfl, hbx.cell 2 rfl, hbx.cell 3 rfl⟩)
  clear hbz H2
  go_wp2
  go_region_held3 (fun w' => w'.cell? ⟨bz, 0, none⟩ = some (.int .i64 X0) ∧ w'.cell? ⟨bz, 1, none⟩ = some (.int .i64 Y0) ∧ w'.cell? ⟨bz, 2, none⟩ = some (.int .i64 X1) ∧ w'.cell? ⟨bz, 3, none⟩ = some (.int .i64 Y1))
    (first | exact ⟨x0, x1, x2, x3⟩ | exact hS1 | exact hS2 | go_keep)
    ((first
      | (go_at_call 75; refine (greport_any g a cap n L oa oc O V R _ _ X0 Y0 X1 Y1 _ HI.out.to0 HF.out hn).mono ?_; rintro e wc ⟨ra, m, rc, out, rfl, HIR, HOW, HB3⟩; have hS2 := HKS.out wc (HB2.out.trans (HB3.out.mono HB2.out.size)))
      | (go_at_call 74; refine (gbuild_any a cap n L _ HP.out hn).mono ?_; rintro e wq ⟨g, oa, oc, O, va, v, vc, V, wa, wc, R, rfl, HI, HF, HB2, _⟩; have hS1 := HKS.out wq HB2.out)
      | fail))
  all_goals
    have HBE := Kp.mk (HBB1.out.trans ((HD.out.trans ((HB2.out.trans (HB3.out.mono HB2.out.size)).mono HD.out.size)).mono HBZ.out))
    have HOE := Kp.mk (own_base HOW.out (show bz ≤ _ from Nat.le_trans HBZ.out (Nat.le_trans HD.out.size HB2.out.size)))
    clear hS1 hS2 HB2 HB3 HI HF
    go_wp2
    refine bodyPost_ret (v := .tuple #[.slice ra m rc, .int .i64 0]) (by simp [results, Try.results37, go_sem]) rfl ?_
    exact ⟨_, _, _, out, rfl, HIR, ⟨by rw [HBZE.out]; exact HOE.out⟩, ⟨by rw [HBZE.out]; exact HBE.out⟩⟩

set_option maxRecDepth 100000 in
set_option maxHeartbeats 4000000 in
theorem gKth_any (a : Option Addr) (cap n : Nat) (L : List Pt) (X0 Y0 X1 Y1 : Int) (k : Nat) (w : World) (h : SlF ptL 3 w a n cap L) (hn : n ≤ 150) (hN : ∀ p ∈ L, p.Near) (hk : k < cntR L X0 Y0 X1 Y1) :
    Calls Try.prog 40 #[.slice a n cap, .agg #[.int .i64 X0, .int .i64 Y0, .int .i64 X1, .int .i64 Y1], .int .i64 (k : Int)] w fun e w' => ∃ p : Nat, e = .returned (.tuple #[.int .i64 (p : Int), .int .i64 0]) ∧ Kp (KthOf L X0 Y0 X1 Y1 k p) ∧ Below w.heap.size w w' := by
  have hlen := h.len ptL_len (by omega)
  have h0 : 0 < n := by
    rcases Nat.eq_zero_or_pos n with e | e
    · subst e
      obtain rfl : L = [] := List.length_eq_zero_iff.1 hlen
      rw [cntR_nil] at hk; omega
    · exact e
  obtain ⟨pb, po, rfl, hpb, hcc⟩ := h.at ptL_len (by omega) 0 (by omega)
  clear hcc
  obtain ⟨bz, hbz⟩ : ∃ bz, w.heap.size = bz := ⟨_, rfl⟩
  have HA := Kp.mk (below_alloc (Nat.le_refl w.heap.size) (.cells #[.int .i64 X0, .int .i64 Y0, .int .i64 X1, .int .i64 Y1] 65))
  have HBX := Kp.mk (Box.new w #[.int .i64 X0, .int .i64 Y0, .int .i64 X1, .int .i64 Y1] 65)
  have H1 := Kp.mk (SlF.below h HA.out)
  have HSZ1 := Kp.mk (alloc_size w (.cells #[.int .i64 X0, .int .i64 Y0, .int .i64 X1, .int .i64 Y1] 65))
  obtain ⟨w1, hw1⟩ : ∃ w1, w.alloc (.cells #[.int .i64 X0, .int .i64 Y0, .int .i64 X1, .int .i64 Y1] 65) = w1 := ⟨_, rfl⟩
  rw [hw1] at HA HBX H1 HSZ1
  rw [hbz] at HA HBX HSZ1 hpb ⊢
  have CC := Kp.mk (gcount_all _ cap n L X0 Y0 X1 Y1 w1 H1.out hn hN)
  obtain ⟨c, hc⟩ : ∃ c, cntR L X0 Y0 X1 Y1 = c := ⟨_, rfl⟩
  have HC := Kp.mk hc
  rw [hc] at CC hk
  have hkz : (k : Int) < c := by omega
  have hc1 : c ≤ 150 := by rw [← hc]; have := cntR_len L X0 Y0 X1 Y1; omega
  have x0 : w1.cell? ⟨bz, 0, none⟩ = some (.int .i64 X0) := HBX.out.cell 0 rfl
  have x1 : w1.cell? ⟨bz, 1, none⟩ = some (.int .i64 Y0) := HBX.out.cell 1 rfl
  have x2 : w1.cell? ⟨bz, 2, none⟩ = some (.int .i64 X1) := HBX.out.cell 2 rfl
  have x3 : w1.cell? ⟨bz, 3, none⟩ = some (.int .i64 Y1) := HBX.out.cell 3 rfl
  have HBS := Kp.mk hbz
  clear h hlen hN hc hbz
  go_enter Try.func40, Try.ntmps40
  go_upto_region 1 with (fail)
  simp only [HBS.out]
  try rw [hw1]
  clear hw1
  go_wp2_with fail
  refine CC.out.mono ?_
  rintro e w2 ⟨rfl, HB2⟩
  have H2 := Kp.mk (SlF.below H1.out HB2)
  have HX2 := Kp.mk (HBX.out.below HB2)
  have HBB2 := Kp.mk (show Below bz w w2 from HA.out.trans (HB2.mono (by have := HSZ1.out; omega)))
  have HSZ2 := Kp.mk (show bz + 1 ≤ w2.heap.size from by have := HSZ1.out; have := HB2.size; omega)
  clear CC H1 HBX HA HB2 HSZ1 x0 x1 x2 x3
  go_wp2_with fail
  refine (gbuild_any _ cap n L w2 H2.out hn).mono ?_
  rintro e w3 ⟨g, oa, oc, O, va, v, vc, V, wa, wc, R, rfl, HI, HF, HB3, HFR⟩
  have HX3 := Kp.mk (HX2.out.below HB3.out)
  have HBB3 := Kp.mk (HBB2.out.trans (HB3.out.mono (by have := HSZ2.out; omega)))
  have HSZ3 := Kp.mk (show bz + 1 ≤ w3.heap.size from by have := HSZ2.out; have := HB3.out.size; omega)
  have x0 : w3.cell? ⟨bz, 0, none⟩ = some (.int .i64 X0) := HX3.out.cell 0 rfl
  have x1 : w3.cell? ⟨bz, 1, none⟩ = some (.int .i64 Y0) := HX3.out.cell 1 rfl
  have x2 : w3.cell? ⟨bz, 2, none⟩ = some (.int .i64 X1) := HX3.out.cell 2 rfl
  have x3 : w3.cell? ⟨bz, 3, none⟩ = some (.int .i64 Y1) := HX3.out.cell 3 rfl
  have CO := Kp.mk (columns_any X0 Y0 X1 Y1 w3 HI.out.to0 HF.out (by omega))
  have HKF := Kp.mk (fun p b q low hp hb hq hlow => kth_facts HF.out X0 Y0 X1 Y1 p b q hp hb hq k low (by rw [HC.out]; exact hk) hlow hn)
  obtain ⟨p, hp⟩ : ∃ p, colAt L O n X0 false = p := ⟨_, rfl⟩
  obtain ⟨b, hb⟩ : ∃ b, colAt L O n X1 true = b := ⟨_, rfl⟩
  obtain ⟨q, hq⟩ : ∃ q, max p b = q := ⟨_, rfl⟩
  obtain ⟨low, hlow⟩ : ∃ low, cntY L O p q Y0 false = low := ⟨_, rfl⟩
  have hpn : p ≤ n := by rw [← hp]; exact colAt_le _ _ _ _ _
  have hbn : b ≤ n := by rw [← hb]; exact colAt_le _ _ _ _ _
  have hpq : p ≤ q := by omega
  have hqn : q ≤ n := by omega
  have hkq : low + k < q - p := (HKF.out p b q low hp hb hq hlow).1
  have HKM := Kp.mk (HKF.out p b q low hp hb hq hlow).2
  rw [hp, hb, hq] at CO
  have HLOW := Kp.mk hlow
  clear HKF hp hb hq hlow hbn HX2 H2 HBB2 HB3
  go_wp2_with fail
  refine CO.out.mono ?_
  rintro e w4 ⟨rfl, HB4⟩
  have HI4 := Kp.mk (HI.out.below HB4)
  have HX4 := Kp.mk (HX3.out.below HB4)
  have HBB4 := Kp.mk (HBB3.out.trans (HB4.mono (by have := HSZ3.out; omega)))
  have HSZ4 := Kp.mk (show bz + 1 ≤ w4.heap.size from by have := HSZ3.out; have := HB4.size; omega)
  clear CO HI HX3 HB4 HBB3 HSZ3 x0 x1 x2 x3
  have x1 : w4.cell? ⟨bz, 1, none⟩ = some (.int .i64 Y0) := HX4.out.cell 1 rfl
  have CB := Kp.mk (gbelow_any p q Y0 false w4 HI4.out HF.out hn hpq hqn)
  rw [HLOW.out] at CB
  go_wp2_with fail
  refine CB.out.mono ?_
  rintro e w5 ⟨rfl, HB5⟩
  have HI5 := Kp.mk (HI4.out.below HB5)
  have HX5 := Kp.mk (HX4.out.below HB5)
  have HBB5 := Kp.mk (HBB4.out.trans (HB5.mono (by have := HSZ4.out; omega)))
  have HSZ5 := Kp.mk (show bz + 1 ≤ w5.heap.size from by have := HSZ4.out; have := HB5.size; omega)
  clear CB HI4 HX4 HB5 HBB4 HSZ4 x1
  have g3 : w5.cell? ⟨g, 3, none⟩ = some (.slice wa 8 wc) := HI5.out.bx.cell 3 rfl
  have e1 : IntKind.i64.wrap ((low : Int) + k) = ((low + k : Nat) : Int) := by rw [Int.natCast_add]; exact IntWalk.i64_in _ (by omega)
  have CK := Kp.mk (wKth_any wa wc 8 n p q (low + k) R w5 HI5.out.wave HF.out.rl (by omega) (by omega) (by omega) hpq hqn (fun z hz => by
    obtain ⟨i, hi, rfl⟩ := List.getElem_of_mem hz
    have := HF.out.rk i (by rw [← HF.out.rl]; exact hi)
    rw [getD_at R 0 hi] at this
    have := HF.out.vl
    omega) hkq)
  go_wp2_with fail
  refine CK.out.mono ?_
  rintro e w6 ⟨⟨m, rfl, hm2, HM⟩, HB6⟩
  obtain ⟨y, s, hy, hmv, hs, hls, hsk, hkc, hsb, HKO⟩ := HKM.out m HM.out
  have HI6 := Kp.mk (HI5.out.below HB6)
  have HX6 := Kp.mk (HX5.out.below HB6)
  have HBB6 := Kp.mk (HBB5.out.trans (HB6.mono (by have := HSZ5.out; omega)))
  have HSZ6 := Kp.mk (show bz + 1 ≤ w6.heap.size from by have := HSZ5.out; have := HB6.size; omega)
  clear CK HI5 HX5 HB6 HBB5 HSZ5 g3 HKM e1
  have g2 : w6.cell? ⟨g, 2, none⟩ = some (.slice va v vc) := HI6.out.bx.cell 2 rfl
  have hvl := HI6.out.vlen
  obtain ⟨vb, vo, rfl, cv⟩ := HI6.out.vals.at m hmv
  rw [← getD_at V 0 hmv, hy] at cv
  have hmz : (m : Int) < v := by omega
  have CB := Kp.mk (gbelow_any p q y false w6 HI6.out HF.out hn hpq hqn)
  rw [hs] at CB
  have HKO' := Kp.mk HKO
  have HMV := Kp.mk (And.intro hmv hkc)
  clear hy hs hmv hvl HKO hkc HM
  go_wp2_with fail
  refine CB.out.mono ?_
  rintro e w7 ⟨rfl, HB7⟩
  have HI7 := Kp.mk (HI6.out.below HB7)
  have HX7 := Kp.mk (HX6.out.below HB7)
  have HBB7 := Kp.mk (HBB6.out.trans (HB7.mono (by have := HSZ6.out; omega)))
  have HSZ7 := Kp.mk (show bz + 1 ≤ w7.heap.size from by have := HSZ6.out; have := HB7.size; omega)
  clear CB HI6 HX6 HB7 HBB6 HSZ6 g2 cv
  have e2 : IntKind.i64.wrap ((s : Int) - low) = ((s - low : Nat) : Int) := by rw [show (s : Int) - low = ((s - low : Nat) : Int) by omega]; exact IntWalk.i64_in _ (by omega)
  obtain ⟨t, ht⟩ : ∃ t : Nat, low + k - s = t := ⟨_, rfl⟩
  have e3 : IntKind.i64.wrap ((k : Int) - ((s - low : Nat) : Int)) = (t : Int) := by rw [show (k : Int) - ((s - low : Nat) : Int) = (t : Int) by omega]; exact IntWalk.i64_in _ (by omega)
  obtain ⟨u, hu⟩ : ∃ u : Nat, s - low = u := ⟨_, rfl⟩
  rw [hu] at e2 e3
  have f1 := HX7.out.free 1
  have y1 : w7.cell? ⟨bz, 1, none⟩ = some (.int .i64 Y0) := HX7.out.cell 1 rfl
  have HX8 := Kp.mk (box_put (i := 1) HX7.out (.int .i64 y))
  have f3 := HX8.out.free 3
  have y3 : (w7.setCell ⟨bz, 1, none⟩ (.int .i64 y)).cell? ⟨bz, 3, none⟩ = some (.int .i64 Y1) := HX8.out.cell 3 rfl
  have HX9 := Kp.mk (box_put (i := 3) HX8.out (.int .i64 y))
  have hg1 := grown_set w7 bz 1 (.int .i64 y)
  have hg2 := grown_set (w7.setCell ⟨bz, 1, none⟩ (.int .i64 y)) bz 3 (.int .i64 y)
  have hg12 := grown_trans hg1 hg2
  obtain ⟨hgg, hoo⟩ := HFR.out
  have hz2 := HSZ2.out
  have HI9 := Kp.mk (show GIdx0 _ g (some ⟨pb, po, none⟩) cap n L oa oc O (.slice (some ⟨vb, vo, none⟩) v vc) (.slice wa 8 wc) from
    ⟨box_grow HI7.out.bx hg12 (fun e => by have := Option.some.inj e; omega), SlC.keep HI7.out.ps hg12 (fun k hk => by cases hk; intro e; have : pb = bz := Option.some.inj e; omega), SlC.keep HI7.out.ord hg12 (fun k hk => by cases hk; intro e; have := hoo bz e; omega)⟩)
  have HBB9 := Kp.mk (HBB7.out.trans (below_of_grown hg12 (by have := HSZ7.out; omega) (fun k hk => by cases hk; exact Nat.le_refl _)))
  obtain ⟨w9, hw9⟩ : ∃ w9, (w7.setCell ⟨bz, 1, none⟩ (.int .i64 y)).setCell ⟨bz, 3, none⟩ (.int .i64 y) = w9 := ⟨_, rfl⟩
  have HSZ9 := Kp.mk (show bz + 1 ≤ w9.heap.size from by rw [← hw9, size_setCell, size_setCell]; exact HSZ7.out)
  rw [hw9] at HX9 HI9 HBB9
  clear hg1 hg2 hg12 hgg hoo hz2 HFR HX7 HX8 HBB7 HSZ7 HI7
  have CR := Kp.mk (greport_any g _ cap n L oa oc O V R _ _ X0 y X1 y w9 HI9.out HF.out hn)
  have x0 : w9.cell? ⟨bz, 0, none⟩ = some (.int .i64 X0) := HX9.out.cell 0 rfl
  have x1 : w9.cell? ⟨bz, 1, none⟩ = some (.int .i64 y) := HX9.out.cell 1 rfl
  have x2 : w9.cell? ⟨bz, 2, none⟩ = some (.int .i64 X1) := HX9.out.cell 2 rfl
  have x3 : w9.cell? ⟨bz, 3, none⟩ = some (.int .i64 y) := HX9.out.cell 3 rfl
  go_upto_region 15 with (fail)
  try simp only [hw9]

  clear y1 y3 f1 f3 hw9 HX9
  go_wp2_with fail
  refine CR.out.mono ?_
  rintro e w10 ⟨ra, mm, rc, out, rfl, HIR, HOW, HB10⟩
  obtain ⟨hir, hol, hmn⟩ := HIR.out
  have htm : t < mm := by
    have h1 := hir.len
    have h2 := HMV.out.2
    omega
  have HSR := Kp.mk (own_sl_len HOW.out (by rw [List.length_map]; exact hol))
  obtain ⟨rb, ro, rfl, cr⟩ := HSR.out.at t (by rw [List.length_map, hol]; exact htm)
  rw [List.getElem_map, ← getD_at out 0 (by omega)] at cr
  have HKT := Kp.mk (HKO'.out out hir (out.getD t 0) (by rw [getD_at out 0 (by omega)]; exact List.getElem_mem _))
  have HBE := Kp.mk (HBB9.out.trans (HB10.out.mono (by have := HSZ9.out; omega)))
  have htz : (t : Int) < mm := by omega
  have cr' : w10.cell? ⟨rb, ro + t, none⟩ = some (.int .i64 ((out.getD t 0 : Nat) : Int)) := cr
  clear hir hol hmn CR HSR HOW HB10 HBB9 HSZ9 cr HKO' HMV HIR x0 x1 x2 x3
  generalize out.getD t 0 = z at *
  go_wp2
  refine bodyPost_ret (v := .tuple #[.int .i64 (z : Int), .int .i64 0]) (by simp [results, Try.results40, go_sem]) rfl ?_
  exact ⟨z, rfl, HKT, HBE.out⟩

end Go.Proofs.Ytlmdlholmlbcbaa

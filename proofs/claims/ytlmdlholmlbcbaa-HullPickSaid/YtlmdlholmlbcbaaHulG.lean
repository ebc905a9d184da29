/- Hulls: the walks of gcd and of Inside. -/
import Derived.Test.YtlmdlholmlbcbaaHulA
import Derived.Test.YtlmdlholmlbcbaaTail
namespace Go.Proofs.Ytlmdlholmlbcbaa
set_option linter.unusedVariables false
open Go.RowKit
open Pick (crn nxt areaS bordS gcdP)

set_option maxRecDepth 100000 in
set_option maxHeartbeats 2000000 in
theorem gcd_any (x y : Int) (w : World) (hx : -4194304 ≤ x ∧ x ≤ 4194304) (hy : -4194304 ≤ y ∧ y ≤ 4194304) :
    Calls Try.prog 58 #[.int .i64 x, .int .i64 y] w fun e w' => e = .returned (.int .i64 ((Nat.gcd x.natAbs y.natAbs : Nat) : Int)) ∧ Drew w w' := by
  obtain ⟨G, hG⟩ : ∃ G, Nat.gcd x.natAbs y.natAbs = G := ⟨_, rfl⟩
  have HG := Kp.mk hG
  rw [hG]
  clear hG
  go_enter Try.func58, Try.ntmps58
  go_wp2
  go_loopw [0, 1] (fun u v wr => ∃ a b : Int, u = .int .i64 a ∧ v = .int .i64 b ∧ Kp (Nat.gcd a.natAbs b.natAbs = G) ∧ Kp ((-4194304 ≤ a ∧ a ≤ 4194304) ∧ (-4194304 ≤ b ∧ b ≤ 4194304)) ∧ Kp (Drew w wr)) (fun _ v _ => (intOf v).natAbs)
  case atStart => exact ⟨x, y, rfl, rfl, HG, ⟨⟨hx, hy⟩⟩, ⟨Drew.refl _⟩⟩
  case round =>
    clear hx hy
    obtain ⟨a, b, rfl, rfl, HE, HBD, HD⟩ := hrel
    obtain ⟨ha, hb⟩ := HBD.out
    by_cases h : b = 0
    · subst h
      have t0 : ((0 : Int) != 0) = false := rfl
      have e1 : IntKind.i64.wrap (-a) = -a := IntWalk.i64_in _ (by omega)
      have e2 : max a (-a) = (G : Int) := by
        have := HE.out
        rw [Int.natAbs_zero, Nat.gcd_zero_right] at this
        omega
      go_wp2
      go_ret
      exact ⟨rfl, HD.out⟩
    · have t0 : (b != 0) = true := by simpa using h
      have hm : (a.tmod b).natAbs = a.natAbs % b.natAbs := Int.natAbs_tmod a b
      have hlt : a.natAbs % b.natAbs < b.natAbs := Nat.mod_lt _ (by omega)
      obtain ⟨c, hc⟩ : ∃ c, a.tmod b = c := ⟨_, rfl⟩
      rw [hc] at hm
      have HE2 := Kp.mk (show Nat.gcd b.natAbs c.natAbs = G from by rw [hm, Nat.gcd_comm, ← Nat.gcd_rec, Nat.gcd_comm]; exact HE.out)
      have HM := Kp.mk (show c.natAbs < b.natAbs by omega)
      have HBD2 := Kp.mk (show (-4194304 ≤ b ∧ b ≤ 4194304) ∧ (-4194304 ≤ c ∧ c ≤ 4194304) from ⟨hb, by omega⟩)
      clear hm hlt ha hb
      go_wp2
      go_quiet (fail)
      go_wp2
      go_roundw
      case rel => exact ⟨b, c, rfl, rfl, HE2, HBD2, ⟨HD.out.more _⟩⟩
      case measure => exact HM.out

theorem bordS_succ (D : List Pt) (k : Nat) : bordS D (k + 1) = bordS D k + gcdP (crn D k) (nxt D k) := rfl
theorem bordS_zero (D : List Pt) : bordS D 0 = 0 := rfl
theorem bordS_bd {D : List Pt} (h : ∀ i, i < D.length → (D.getD i pt0).Near) : ∀ k : Nat, k ≤ D.length → 0 ≤ bordS D k ∧ bordS D k ≤ 4194304 * (k : Int)
  | 0, _ => by unfold bordS; omega
  | k + 1, hk => by
    have ih := bordS_bd h k (by omega)
    obtain ⟨n1, n2⟩ := crn_near h k (by omega)
    rw [bordS_succ]
    have hg : gcdP (crn D k) (nxt D k) ≤ 4194304 := by
      unfold Pick.gcdP
      unfold Pt.Near at n1 n2
      by_cases h0 : ((nxt D k).x - (crn D k).x).natAbs = 0
      · rw [h0, Nat.gcd_zero_left]; omega
      · have := Nat.le_of_dvd (by omega) (Nat.gcd_dvd_left ((nxt D k).x - (crn D k).x).natAbs ((nxt D k).y - (crn D k).y).natAbs)
        omega
    omega

attribute [local irreducible] areaS bordS gcdP
set_option maxRecDepth 100000 in
set_option maxHeartbeats 4000000 in
theorem inside1_any (b : Nat) (v : Int) (p q : Pt) (w : World) (hb : Box w b #[.int .i64 v] 3) (hp : p.Near) (hq : q.Near) (hv : 0 ≤ v ∧ v ≤ 4611686018427387904) :
    Calls Try.prog 57 #[.agg #[.int .i64 p.x, .int .i64 p.y, .int .i64 p.w], .agg #[.int .i64 q.x, .int .i64 q.y, .int .i64 q.w], .pointer (some ⟨b, 0, none⟩)] w fun e w' => e = .returned (.tuple #[]) ∧ Box w' b #[.int .i64 (v + gcdP p q)] 3 ∧ w.grownBy w' (some b) := by
  have HGP := Kp.mk (show gcdP p q = Nat.gcd (q.x - p.x).natAbs (q.y - p.y).natAbs from by unfold Pick.gcdP; rfl)
  unfold Pt.Near at hp hq
  have hG : Nat.gcd (q.x - p.x).natAbs (q.y - p.y).natAbs ≤ 4194304 := by
    by_cases h0 : (q.x - p.x).natAbs = 0
    · rw [h0, Nat.gcd_zero_left]; omega
    · have := Nat.le_of_dvd (by omega) (Nat.gcd_dvd_left (q.x - p.x).natAbs (q.y - p.y).natAbs)
      omega
  have CG := Kp.mk (fun W => gcd_any (q.x - p.x) (q.y - p.y) W (by omega) (by omega))
  rw [HGP.out]
  obtain ⟨G, hGe⟩ : ∃ G, Nat.gcd (q.x - p.x).natAbs (q.y - p.y).natAbs = G := ⟨_, rfl⟩
  rw [hGe] at CG hG ⊢
  clear HGP hGe
  obtain ⟨px, py, pw⟩ := p
  obtain ⟨qx, qy, qw⟩ := q
  dsimp only at *
  have e1 : IntKind.i64.wrap (qx - px) = qx - px := IntWalk.i64_in _ (by omega)
  have e2 : IntKind.i64.wrap (qy - py) = qy - py := IntWalk.i64_in _ (by omega)
  have e3 : IntKind.i64.wrap (v + (G : Int)) = v + (G : Int) := IntWalk.i64_in _ (by omega)
  have hbw := hb.lt
  have b1 := Box.new w #[.int .i64 px, .int .i64 py, .int .i64 pw] 41
  have b2 := Box.new (w.alloc (.cells #[.int .i64 px, .int .i64 py, .int .i64 pw] 41)) #[.int .i64 qx, .int .i64 qy, .int .i64 qw] 41
  rw [alloc_size] at b2
  have b3 := b1.alloc (.cells #[.int .i64 qx, .int .i64 qy, .int .i64 qw] 41)
  have b4 := (hb.alloc (.cells #[.int .i64 px, .int .i64 py, .int .i64 pw] 41)).alloc (.cells #[.int .i64 qx, .int .i64 qy, .int .i64 qw] 41)
  have HBW := Kp.mk (show w.grownBy ((w.alloc (.cells #[.int .i64 px, .int .i64 py, .int .i64 pw] 41)).alloc (.cells #[.int .i64 qx, .int .i64 qy, .int .i64 qw] 41)) (some b) from grown_trans (World.grownBy_alloc w _ _) (World.grownBy_alloc _ _ _))
  have HX4 := Kp.mk b4
  have HX1 := Kp.mk b3
  have HX2 := Kp.mk b2
  clear b1 b2 b3 b4 hb hp hq hv
  go_enter Try.func57, Try.ntmps57
  go_upto_region 1 with (fail)
  obtain ⟨sz, hsz⟩ : ∃ sz, sz = w.heap.size := ⟨_, rfl⟩
  rw [← hsz] at HX1 HX2
  simp only [← hsz]
  have HSZ := Kp.mk hsz
  generalize (w.alloc (.cells #[.int .i64 px, .int .i64 py, .int .i64 pw] 41)).alloc (.cells #[.int .i64 qx, .int .i64 qy, .int .i64 qw] 41) = W at *
  clear hsz
  have c0 : W.cell? ⟨sz, 0, none⟩ = some (.int .i64 px) := HX1.out.cell 0 rfl
  have c1 : W.cell? ⟨sz, 1, none⟩ = some (.int .i64 py) := HX1.out.cell 1 rfl
  have c2 : W.cell? ⟨sz + 1, 0, none⟩ = some (.int .i64 qx) := HX2.out.cell 0 rfl
  have c3 : W.cell? ⟨sz + 1, 1, none⟩ = some (.int .i64 qy) := HX2.out.cell 1 rfl
  have c4 : W.cell? ⟨b, 0, none⟩ = some (.int .i64 v) := HX4.out.cell 0 rfl
  have CG2 := Kp.mk (fun W => (CG.out W).mono (R' := fun e w' => e = .returned (.int .i64 (G : Int)) ∧ Below W.heap.size W w') (fun e w' h => ⟨h.1, h.2.below _⟩))
  have k0 := later_cell c0
  have k1 := later_cell c1
  have k2 := later_cell c2
  have k3 := later_cell c3
  have k4 := later_cell c4
  clear c0 c1 c2 c3 c4 CG HX1 HX2
  refine region_later_tail 13 (by kernel_rfl) (by kernel_rfl) ?_
  simp only [List.take_succ_cons, List.take_zero, List.drop_succ_cons, List.drop_zero]
  iterate 13 (go_big_quiet_step ((go_at_call 58; exact q_later (CG2.out _))))
  refine wpQuiet_nil ?_
  rintro w' ⟨xl, rfl⟩
  have HX5 := Kp.mk (HX4.out.below xl.le)
  have HB5 := Kp.mk (grown_trans HBW.out (grown_of_below xl.le))
  generalize xl.val = W5 at *
  have c5 : W5.cell? ⟨b, 0, none⟩ = some (.int .i64 v) := HX5.out.cell 0 rfl
  have f5 := frozen_of_row _ b 0 #[.int .i64 v] 3 HX5.out
  clear k0 k1 k2 k3 k4 CG2
  go_wp2
  go_end0
  exact ⟨rfl, box_put HX5.out 0 _, grown_trans HB5.out (grown_set W5 b 0 _)⟩

set_option maxRecDepth 100000 in
set_option maxHeartbeats 4000000 in
theorem hInside_any (a : Option Addr) (cap m : Nat) (L : List Pt) (w : World) (h : SlF ptL 3 w a (m + 1) cap L) (hm : m + 1 ≤ 150) (hN : ∀ p ∈ L, p.Near) (h3 : ∀ D, Pick.HullL L D → 3 ≤ D.length) :
    Calls Try.prog 26 #[.slice a (m + 1) cap] w fun e w' => ∃ D, Kp (Pick.HullL L D) ∧ D.length ≤ 2000 ∧ e = .returned (.tuple #[.int .i64 ((areaS D D.length - bordS D D.length + 2).tdiv 2), .int .i64 (bordS D D.length), .int .i64 0]) ∧ Below w.heap.size w w' := by
  have eg : ∀ args w, (callFunc 57 args).run Try.prog w = .ok (.enter 57 args) w := enters_of Try.func57 (by kernel_rfl) rfl
  have hA := below_alloc (Nat.le_refl w.heap.size) (.cells #[.int .i64 0] 3)
  have HB0 := Kp.mk hA
  have HX0 := Kp.mk (Box.new w #[.int .i64 0] 3)
  have C1 := Kp.mk (hfault_any a cap m L _ (SlF.below h hA) hm hN)
  have H := Kp.mk h
  have HN := Kp.mk hN
  have HLL := Kp.mk (h.len ptL_len (by omega))
  have H3 := Kp.mk h3
  clear h hN hA h3
  go_enter Try.func26, Try.ntmps26
  go_wp2_with fail
  refine C1.out.mono ?_
  rintro e w1 ⟨rfl, HB1⟩
  obtain ⟨b, hb⟩ : ∃ b, b = w.heap.size := ⟨_, rfl⟩
  rw [← hb] at HX0
  simp only [← hb]
  have HX1 := Kp.mk (HX0.out.below HB1.out)
  have HBB := Kp.mk (below_step HB0.out HB1.out)
  have HBE := Kp.mk hb
  clear hb C1 HB0 HB1 HX0
  have C2 := Kp.mk (corners_own a cap m L w1 (SlF.below H.out HBB.out) (by omega) HN.out)
  have HKA := Kp.mk (show ∀ k, blk a = some k → k < b from fun k hk => by
    obtain ⟨k', h1, h2⟩ := SlC.lt H.out (by rw [flat_length ptL_len, HLL.out]; omega)
    rw [h1] at hk; cases hk; rw [HBE.out]; exact h2)
  have hb1 := HX1.out.lt
  go_wp2_with fail
  refine C2.out.mono ?_
  rintro e w2 ⟨ra, r, rc, K, C, rfl, HC, HR, hr, HO, HB3⟩
  have HX2 := Kp.mk (HX1.out.below HB3.out)
  have HB4 := Kp.mk (below_step HBB.out HB3.out)
  have H2 := Kp.mk (SlF.below H.out HB4.out)
  have HLT := Kp.mk (corners_lt HC.out)
  have HH := Kp.mk (hullL_of HC.out)
  have hDl : (C.map (ptAt L)).length = r := by rw [List.length_map]; exact HR.out
  have HDL := Kp.mk hDl
  have hr3 : 3 ≤ r := by have := H3.out _ HH.out; omega
  have HNC := Kp.mk (show ∀ i, i < r → C.getD i 0 < m + 1 ∧ (L.getD (C.getD i 0) pt0).Near from fun i hi => by
    have := HLT.out i (by rw [HR.out]; exact hi)
    exact ⟨by rw [← HLL.out]; exact this, HN.out _ (by rw [getD_at _ _ this]; exact List.getElem_mem _)⟩)
  have HCR := Kp.mk (show ∀ i, i < r → crn (C.map (ptAt L)) i = L.getD (C.getD i 0) pt0 from fun i hi => getD_pts L C i (by rw [HR.out]; exact hi))
  have HNr := Kp.mk (show ∀ i, i < (C.map (ptAt L)).length → ((C.map (ptAt L)).getD i pt0).Near from fun i hi => by
    rw [hDl] at hi
    rw [getD_pts L C i (by rw [HR.out]; exact hi)]; exact (HNC.out i hi).2)
  have HKR := Kp.mk (show ∀ k, blk ra = some k → b < k from fun k hk => by have := own_lt HO.out k hk; omega)
  have HKEEP := Kp.mk (show ∀ W, w2.grownBy W (some b) → SlF ptL 3 W a (m + 1) cap L ∧ SlI W ra rc (C.map Int.ofNat) from fun W hW =>
    ⟨SlC.keep H2.out hW (fun k hk e => by simp only [Option.some.injEq] at hk; subst hk; have := HKA.out _ e; omega),
      own_sl_len (own_keep HO.out hW (fun k hk e => by simp only [Option.some.injEq] at hk; subst hk; have := HKR.out _ e; omega)) (by rw [List.length_map]; exact HR.out)⟩)
  have CE := Kp.mk (edges_any 57 #[.pointer (some ⟨b, 0, none⟩)] eg (fun k W => Box W b #[.int .i64 (bordS (C.map (ptAt L)) k)] 3 ∧ w2.grownBy W (some b)) a cap (m + 1) L ra rc r C w2 HR.out hr (fun i hi => (HNC.out i hi).1)
    (fun k W hI => HKEEP.out W hI.2) (fun k W q hI => ⟨hI.1.drewN q, grown_trans hI.2 ⟨rfl, rfl, rfl, Nat.le_refl _, fun _ _ _ => rfl⟩⟩)
    (fun k W hk hI => by
      have hbd := bordS_bd HNr.out k (by rw [HDL.out]; omega)
      have hm1 : (k + 1) % r < r := Nat.mod_lt _ (by omega)
      have hc1 := HCR.out k hk
      have hc2 : nxt (C.map (ptAt L)) k = L.getD (C.getD ((k + 1) % r) 0) pt0 := by
        unfold nxt; rw [HDL.out]; exact HCR.out _ hm1
      have hk2 : (k : Int) ≤ 2000 := by omega
      refine (inside1_any b _ (L.getD (C.getD k 0) pt0) (L.getD (C.getD ((k + 1) % r) 0) pt0) W hI.1 (HNC.out k hk).2 (HNC.out _ hm1).2 (by omega)).mono ?_
      rintro e w' ⟨he, hx, hg⟩
      exact ⟨he, by rw [bordS_succ, hc1, hc2]; exact hx, grown_trans hI.2 hg⟩)
    ⟨by rw [bordS_zero]; exact HX2.out, grown_refl _ _⟩)
  have z1 : ((r : Int) == 1) = false := by rw [beq_eq_false_iff_ne]; omega
  have z2 : ((r : Int) == 2) = false := by rw [beq_eq_false_iff_ne]; omega
  clear C2 HC HX1 HX2 HLT hDl HCR HO
  go_wp2_with fail
  refine CE.out.mono ?_
  rintro e w5 ⟨rfl, HI⟩
  obtain ⟨hS5, hI5⟩ := HKEEP.out w5 HI.out.2
  have HAR := Kp.mk (fun W (h : Below w5.heap.size w5 W) => harea_any a cap (m + 1) L ra rc r C W (SlF.below hS5 h) (SlI.below hI5 h) HR.out hr (fun i hi => (HNC.out i hi).1) (fun i hi => (HNC.out i hi).2))
  have HX5 := Kp.mk HI.out.1
  have HB5 := Kp.mk (show Below w.heap.size w w5 from HB4.out.trans (grown_below HI.out.2 (by rw [← HBE.out]; have := HB3.out.size; omega) (fun k hk => by simp only [Option.some.injEq] at hk; rw [← HBE.out]; omega)))
  have hbb := bordS_bd HNr.out r (by rw [HDL.out]; omega)
  have hab := areaS_bd HNr.out r (by rw [HDL.out]; omega)
  clear hS5 hI5 HI CE HKEEP HKR HKA HNC HNr H2 HR HB3 HB4
  generalize C.map (ptAt L) = D at *
  obtain ⟨A, hA⟩ : ∃ A, areaS D r = A := ⟨_, rfl⟩
  obtain ⟨B, hB⟩ : ∃ B, bordS D r = B := ⟨_, rfl⟩
  rw [hB] at HX5 hbb
  rw [hA] at HAR hab
  have HAE := Kp.mk hA
  have HBEQ := Kp.mk hB
  have e1 : IntKind.i64.wrap (A - B) = A - B := IntWalk.i64_in _ (by omega)
  have e2 : IntKind.i64.wrap (A - B + 2) = A - B + 2 := IntWalk.i64_in _ (by omega)
  obtain ⟨Q, hQ⟩ : ∃ Q, (A - B + 2).tdiv 2 = Q := ⟨_, rfl⟩
  have e3 : IntKind.i64.wrap ((A - B + 2).tdiv 2) = Q := by
    rw [hQ]
    refine IntWalk.i64_in _ ?_
    have := tdiv_bd (A - B + 2) 2 (by omega) (by omega) (by omega)
    omega
  have HQ := Kp.mk hQ
  have k0 := later_cell (show w5.cell? ⟨b, 0, none⟩ = some (.int .i64 B) from HX5.out.cell 0 rfl)
  have HARL := Kp.mk (fun (x : Later w5) => HAR.out x.val x.le)
  clear hA hB hQ hab hbb HAR
  go_wp2
  refine region_later_tail 9 (by kernel_rfl) (by kernel_rfl) ?_
  simp only [List.take_succ_cons, List.take_zero, List.drop_succ_cons, List.drop_zero]
  iterate 9 (go_big_quiet_step ((go_at_call 56; exact q_later (HARL.out _))))
  refine wpQuiet_nil ?_
  rintro w' ⟨xl, rfl⟩
  have HX6 := Kp.mk (HX5.out.below xl.le)
  have HB6 := Kp.mk (below_step HB5.out xl.le)
  generalize xl.val = W6 at *
  have c6 : W6.cell? ⟨b, 0, none⟩ = some (.int .i64 B) := HX6.out.cell 0 rfl
  have f6 := frozen_of_row _ b 0 #[.int .i64 B] 3 HX6.out
  have d6 : (W6.setCell ⟨b, 0, none⟩ (.int .i64 B)).cell? ⟨b, 0, none⟩ = some (.int .i64 B) := (box_put HX6.out 0 (.int .i64 B)).cell 0 rfl
  have HBF := Kp.mk (show Below w.heap.size w (W6.setCell ⟨b, 0, none⟩ (.int .i64 B)) from HB6.out.setCell (p := ⟨b, 0, none⟩) (by show w.heap.size ≤ b; rw [HBE.out]; exact Nat.le_refl _) _)
  clear k0 HARL e1 e2 e3
  go_wp2
  refine bodyPost_ret (v := .tuple #[.int .i64 Q, .int .i64 B, .int .i64 0]) ?_ rfl ?_
  · simp [results, Try.results26, go_sem, d6]
  · exact ⟨D, HH, by rw [HDL.out]; exact hr, by rw [HDL.out, HAE.out, HBEQ.out, HQ.out], HBF.out⟩

end Go.Proofs.Ytlmdlholmlbcbaa

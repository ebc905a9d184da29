/- ClosestPair: the walk. -/
import Derived.Test.YtlmdlholmlbcbaaNrC
import Derived.Test.YtlmdlholmlbcbaaNrN
import Derived.Test.YtlmdlholmlbcbaaNrA
import Derived.Test.YtlmdlholmlbcbaaFlatIn
import Derived.Test.YtlmdlholmlbcbaaStep
namespace Go.Proofs.Ytlmdlholmlbcbaa
set_option linter.unusedVariables false
open Go.RowKit
open Hp (nlt nlt_iff IsNear IsClosest closest_two)

set_option maxRecDepth 100000 in
set_option maxHeartbeats 8000000 in
theorem walk_ClosestPair (a0 : Option Addr) (len0 cap0 : Nat) (z0 : List Int) (w : World) (w0 : IsFlat 3 w a0 len0 cap0 z0) :
    Calls Try.prog 9 #[.slice a0 len0 cap0] w fun e w' => e = .returned (.bool true) ∧ Below w.heap.size w w' := by
  obtain ⟨S, hS, wS, nS⟩ := spots_in w0
  have C1 := Kp.mk (points_any a0 cap0 len0 60 50 S w hS (by unfold maxLen at nS; omega) (by omega) (by omega) (by omega) wS)
  clear w0 hS wS nS
  go_enter Try.func9, Try.ntmps9
  go_wp2_with fail
  refine C1.out.mono ?_
  rintro e w1 ⟨sa, sc, r, rfl, HR, HO, hb1⟩
  have hr60 : r ≤ 60 := by have := HR.out; rw [ptsOf_length] at this; omega
  have HBD := Kp.mk (ptsOf_bd S 60 50 (by omega))
  generalize ptsOf S 60 50 = L0 at *
  have hsz := Kp.mk hb1.size
  have HB1 := Kp.mk hb1
  clear C1 hb1
  go_wp2_with (at_builtin; refine wpList_push tPts rfl _ _ rfl w.heap.size sa r sc _ rfl HO.out 2 2 _ rfl rfl ?d1 (by decide) ?d2 (by decide) hsz.out ?d4)
  case d1 => simp [Value.oneCell']
  case d2 => omega
  case d4 =>
    intro sa2 sc2 w2 hown hbel
    have HLE := Kp.mk (show (L0 ++ [(⟨3, 5, 0⟩ : Pt), ⟨30, 7, 0⟩]).length = r + 2 by rw [List.length_append, HR.out]; rfl)
    have HP2 := Kp.mk (show SlF ptL 3 w2 sa2 (r + 2) sc2 (L0 ++ [(⟨3, 5, 0⟩ : Pt), ⟨30, 7, 0⟩]) from by
      unfold SlF
      rw [flat_append]
      exact own_slc hown)
    have HNR := Kp.mk (show ∀ p ∈ L0 ++ [(⟨3, 5, 0⟩ : Pt), ⟨30, 7, 0⟩], p.Near from fun p hp => by
      rcases List.mem_append.1 hp with hp | hp
      · have := HBD.out p hp; unfold Pt.Near; omega
      · rcases List.mem_cons.1 hp with hp | hp
        · rw [hp]; unfold Pt.Near; decide
        · rw [List.mem_singleton.1 hp]; unfold Pt.Near; decide)
    have HB2 := Kp.mk (HB1.out.trans hbel)
    generalize L0 ++ [(⟨3, 5, 0⟩ : Pt), ⟨30, 7, 0⟩] = L at *
    clear hown hbel HO HR HBD hsz HB1
    obtain ⟨N, hN⟩ : ∃ N, r + 2 = N := ⟨_, rfl⟩
    rw [hN] at HLE HP2 ⊢
    have hN0 : 2 ≤ N ∧ N ≤ 62 := by omega
    clear hN hr60
    go_wp2_with (first
      | (at_builtin; refine wpList_cat tPts (by rfl) _ _ (by rfl) w2.heap.size none 0 0 [] (by rfl) (World.ownsRow_nil _ _ _ _) sa2 N sc2 _ (by rfl) HP2.out (flat_one ptL_one _) ?k2 (by decide) (Nat.le_refl _) ?k4)
      | fail)
    case k2 => omega
    case k4 =>
      intro xa xc w4 hown4 hb4
      have CC := Kp.mk (closest_any xa xc N L w4 (own_slc hown4) (by omega) (by omega) HNR.out)
      have HP4 := Kp.mk (HP2.out.below hb4)
      have HB4 := Kp.mk (below_step HB2.out hb4)
      clear hown4 hb4 HP2 HB2
      go_wp2_with fail
      refine CC.out.mono ?_
      rintro e w5 ⟨A, B, rfl, HCL, HB5⟩
      have HP5 := Kp.mk (HP4.out.below HB5.out)
      have HBW5 := Kp.mk (below_step HB4.out HB5.out)
      clear CC HP4 HB4 HB5
      have hal := below_alloc (Nat.le_refl w5.heap.size) (.cells #[.int .i64 (A : Int), .int .i64 (B : Int)] 54)
      have HX6 := Kp.mk (Box.new w5 #[.int .i64 (A : Int), .int .i64 (B : Int)] 54)
      have HP6 := Kp.mk (HP5.out.below hal)
      have HBW6 := Kp.mk (below_step HBW5.out hal)
      obtain ⟨d, hd⟩ : ∃ d, dstL L A B = d := ⟨_, rfl⟩
      have HD := Kp.mk hd
      simp only [hd]
      clear hd
      go_wp2
      obtain ⟨bp, hbp⟩ : ∃ bp, w5.heap.size = bp := ⟨_, rfl⟩
      obtain ⟨w6, hw6⟩ : ∃ w6, w5.alloc (.cells #[.int .i64 (A : Int), .int .i64 (B : Int)] 54) = w6 := ⟨_, rfl⟩
      rw [hbp, hw6] at HX6
      rw [hw6] at HP6 HBW6 ⊢
      try simp only [hbp]
      clear hal hbp hw6 HP5 HBW5
      have hAB := HCL.out.ab
      have hBN := HCL.out.bn
      obtain ⟨pb, po, rfl, _, _⟩ := HP6.out.at ptL_len (by omega) 0 (by rw [HLE.out]; omega)
      have HPC := Kp.mk (fun (W : World) (hW : Below w6.heap.size w6 W) (i : Nat) (hi : i < N) => show W.cell? ⟨pb, po + i * 3, none⟩ = some (.int .i64 (L.getD i pt0).x) ∧ W.cell? ⟨pb, po + i * 3 + 1, none⟩ = some (.int .i64 (L.getD i pt0).y) ∧ W.cell? ⟨pb, po + i * 3 + 2, none⟩ = some (.int .i64 (L.getD i pt0).w) from by
        obtain ⟨_, _, e, _, co⟩ := (SlF.below HP6.out hW).at ptL_len (by omega) i (by rw [HLE.out]; exact hi)
        simp only [Option.some.injEq, Addr.mk.injEq, and_true] at e
        obtain ⟨rfl, rfl⟩ := e
        rw [← getD_at L pt0 (by rw [HLE.out]; exact hi)] at co
        exact ⟨co 0 (by omega), co 1 (by omega), co 2 (by omega)⟩)
      have HXC := Kp.mk (fun (W : World) (hW : Below w6.heap.size w6 W) => show W.cell? ⟨bp, 0, none⟩ = some (.int .i64 (A : Int)) ∧ W.cell? ⟨bp, 1, none⟩ = some (.int .i64 (B : Int)) from ⟨(HX6.out.below hW).cell 0 rfl, (HX6.out.below hW).cell 1 rfl⟩)
      have HXY := Kp.mk (show ∀ i, i < N → NearXY (L.getD i pt0) from fun i hi => by
        have hm : L.getD i pt0 ∈ L := by rw [getD_at _ _ (by rw [HLE.out]; exact hi)]; exact List.getElem_mem _
        exact (HNR.out _ hm).xy)
      have CA := Kp.mk (fun (W : World) (i j : Nat) (hi : i < N) (hj : j < N) => apart_any (L.getD i pt0) (L.getD j pt0) W (HXY.out i hi) (HXY.out j hj))
      have hpN : N ≤ sc2 := HP6.out.le
      have HBS := Kp.mk (show ∀ a b, b < a → a < N → d ≤ dstL L a b from fun a b hab ha => by
        have := HCL.out.best b a hab ha
        rw [HD.out, dst_sym L b a] at this
        omega)
      have hD6 := Kp.mk (Below.refl w6.heap.size w6)
      obtain ⟨x0, x1⟩ := HXC.out w6 hD6.out
      obtain ⟨a0, a1, a2⟩ := HPC.out w6 hD6.out A (by omega)
      obtain ⟨b0, b1, b2⟩ := HPC.out w6 hD6.out B (by omega)
      have CA1 := Kp.mk (fun (x : Later w6) => CA.out x.val A B (by omega) (by omega))
      have HF1 := Kp.mk (show fdist (L.getD A pt0) (L.getD B pt0) = d from HD.out)
      rw [HF1.out] at CA1
      generalize L.getD A pt0 = ua at *
      generalize L.getD B pt0 = ub at *
      have x0' := later_cell x0
      have x1' := later_cell x1
      have a0' := later_cell a0
      have a1' := later_cell a1
      have a2' := later_cell a2
      have b0' := later_cell b0
      have b1' := later_cell b1
      have b2' := later_cell b2
      have hAz : (A : Int) < N := by omega
      have hBz : (B : Int) < N := by omega
      have q1 : decide ((A : Int) < 0) = false := decide_eq_false (by omega)
      have q2 : decide ((B : Int) ≤ (A : Int)) = false := decide_eq_false (by omega)
      have q3 : decide ((B : Int) ≥ (N : Int)) = false := decide_eq_false (by omega)
      have q2n : ¬ B ≤ A := by omega
      have q3n : ¬ N ≤ B := by omega
      clear x0 x1 a0 a1 a2 b0 b1 b2
      refine region_later (by kernel_rfl) (by kernel_rfl) ?_
      iterate 36 (go_big_quiet_step ((go_at_call 28; exact q_later (CA1.out _))))
      refine wpQuiet_nil ?_
      rintro w7 ⟨xl, rfl⟩
      have HB7 := Kp.mk (hD6.out.trans xl.le)
      clear x0' x1' a0' a1' a2' b0' b1' b2' CA1 hD6
      generalize xl.val = w7 at *
      go_wp2
      go_loopw [7] (fun v7 wr => ∃ a : Nat, a ≤ N ∧ v7 = .int .i64 a ∧ Kp (Below w6.heap.size w6 wr)) (fun v7 _ => N - (intOf v7).toNat)
      case atStart => exact ⟨0, by omega, rfl, HB7⟩
      case round =>
        clear HB7
        obtain ⟨a, ha, rfl, HBR⟩ := hrel
        by_cases haN : a < N
        · have haz : (a : Int) < N := by omega
          have e1 : IntKind.i64.wrap ((a : Int) + 1) = (a : Int) + 1 := IntWalk.i64_in _ (by omega)
          go_wp2
          go_loopw [8] (fun v8 wr => ∃ b : Nat, b ≤ a ∧ v8 = .int .i64 b ∧ Kp (Below w6.heap.size w6 wr)) (fun v8 _ => a - (intOf v8).toNat)
          case atStart => exact ⟨0, by omega, rfl, HBR⟩
          case round =>
            clear HBR
            obtain ⟨b, hb, rfl, HBR⟩ := hrel
            by_cases hba : b < a
            · have hbz : (b : Int) < a := by omega
              have hbNz : (b : Int) < N := by omega
              have hbN : b < N := by omega
              have e2 : IntKind.i64.wrap ((b : Int) + 1) = (b : Int) + 1 := IntWalk.i64_in _ (by omega)
              obtain ⟨a0, a1, a2⟩ := HPC.out wr HBR.out a haN
              obtain ⟨b0, b1, b2⟩ := HPC.out wr HBR.out b hbN
              have CA1 := Kp.mk (fun (x : Later wr) => CA.out x.val a b haN hbN)
              obtain ⟨f, hf⟩ : ∃ f, fdist (L.getD a pt0) (L.getD b pt0) = f := ⟨_, rfl⟩
              have hle : d ≤ f := by rw [← hf]; exact HBS.out a b hba haN
              rw [hf] at CA1
              have q4 : decide (f < d) = false := decide_eq_false (by omega)
              generalize L.getD a pt0 = pa at *
              generalize L.getD b pt0 = pc at *
              have a0' := later_cell a0
              have a1' := later_cell a1
              have a2' := later_cell a2
              have b0' := later_cell b0
              have b1' := later_cell b1
              have b2' := later_cell b2
              clear hf a0 a1 a2 b0 b1 b2
              go_wp2
              refine region_later (by kernel_rfl) (by kernel_rfl) ?_
              iterate 11 (go_big_quiet_step ((go_at_call 28; exact q_later (CA1.out _))))
              refine wpQuiet_nil ?_
              rintro w8 ⟨xl8, rfl⟩
              have HB8 := Kp.mk (HBR.out.trans (xl8.le.mono HBR.out.size))
              clear a0' a1' a2' b0' b1' b2' CA1 HBR
              generalize xl8.val = w8 at *
              go_wp2
              go_roundw
              case rel => exact ⟨b + 1, by omega, by go_num, HB8⟩
              case measure => simp [intOf]; omega
            · obtain rfl : b = a := by omega
              go_wp2
              go_roundw
              case rel => exact ⟨b + 1, by omega, by go_num, HBR⟩
              case measure => simp [intOf]; omega
        · obtain rfl : a = N := by omega
          clear HF1 q1 q2 q2n xl
          obtain ⟨x0, x1⟩ := HXC.out wr HBR.out
          obtain ⟨a0, a1, a2⟩ := HPC.out wr HBR.out A (by omega)
          have hbw : bp < wr.heap.size := World.block_lt_of_cell? _ _ x0
          have hpw : pb < wr.heap.size := World.block_lt_of_cell? _ _ a0
          have hND := HXY.out A (by omega)
          have HDD := Kp.mk (show ∀ i, fdist (L.getD i pt0) ⟨(L.getD A pt0).x, (L.getD A pt0).y, 0⟩ = dstL L i A from fun i => rfl)
          have CN := Kp.mk (fun (W : World) (hx : SlF ptL 3 W (some ⟨pb, po, none⟩) a sc2 L) => (nearest_any (some ⟨pb, po, none⟩) sc2 a 2 (L.getD A pt0).x (L.getD A pt0).y L W hx (by omega) (by omega) HNR.out hND.1 hND.2 (by omega) (by omega)).mono (R' := fun e w' => ∃ oa oc out, e = .returned (.tuple #[.slice oa 2 oc, .int .i64 0]) ∧ Kp (IsNear (fun i => dstL L i A) a 2 out) ∧ Kp (w'.ownsRow W.heap.size 3 1 (.slice oa 2 oc) 2 (natV out)) ∧ Kp (Below W.heap.size W w')) (fun e w' h => by rw [Nat.min_eq_left (by omega : 2 ≤ a), show (fun i => fdist (L.getD i pt0) ⟨(L.getD A pt0).x, (L.getD A pt0).y, 0⟩) = (fun i => dstL L i A) from funext HDD.out] at h; exact h))
          have HPR := Kp.mk (HP6.out.below HBR.out)
          obtain ⟨ax, hax⟩ : ∃ z, (L.getD A pt0).x = z := ⟨_, rfl⟩
          obtain ⟨ay, hay⟩ : ∃ z, (L.getD A pt0).y = z := ⟨_, rfl⟩
          rw [hax] at a0
          rw [hay] at a1
          rw [hax, hay] at CN
          clear hax hay hND HDD a2
          have hD0 : Below wr.heap.size wr wr.drew := (Below.refl _ _).drew
          go_wp2
          go_region_held3 (fun w' => w'.cell? ⟨bp, 0, none⟩ = some (.int .i64 (A : Int)) ∧ w'.cell? ⟨pb, po + A * 3, none⟩ = some (.int .i64 ax) ∧ w'.cell? ⟨pb, po + A * 3 + 1, none⟩ = some (.int .i64 ay))
            (first | exact ⟨x0, a0, a1⟩ | exact hS5)
            ((first
              | (go_at_call 27; refine (CN.out _ (SlF.below HPR.out hD0)).mono ?_; rintro e w5 ⟨oa, oc, out, rfl, HIN, HOO, HB5⟩; have hb5 := below_step hD0 HB5.out; have hS5 : w5.cell? ⟨bp, 0, none⟩ = some (.int .i64 (A : Int)) ∧ w5.cell? ⟨pb, po + A * 3, none⟩ = some (.int .i64 ax) ∧ w5.cell? ⟨pb, po + A * 3 + 1, none⟩ = some (.int .i64 ay) := ⟨(hb5.cell (p := ⟨bp, 0, none⟩) hbw).trans x0, (hb5.cell (p := ⟨pb, po + A * 3, none⟩) hpw).trans a0, (hb5.cell (p := ⟨pb, po + A * 3 + 1, none⟩) hpw).trans a1⟩)
              | fail))
          have hlo := HIN.out.len
          have HB6 := Kp.mk (HBR.out.trans (hb5.mono HBR.out.size))
          obtain ⟨x, y, rfl⟩ : ∃ x y, out = [x, y] := by
            have h2 : out.length = 2 := by rw [hlo]; omega
            match out, h2 with
            | [x, y], _ => exact ⟨x, y, rfl⟩
          have hx := HIN.out.lt x (by simp)
          have hy := HIN.out.lt y (by simp)
          have HMX := Kp.mk (closest_two (dst_sym L) (fun i => by unfold dstL fdist; simp) (dst_nn L) HCL.out HIN.out)
          rw [HD.out] at HMX
          have hoc := (own_slc HOO.out).le
          obtain ⟨og, rfl, hog, _⟩ := own_some HOO.out (by omega)
          have o0 : w5.cell? ⟨og, 0, none⟩ = some (.int .i64 ((x : Nat) : Int)) := HOO.out.cellAt 0 (by omega)
          have o1 : w5.cell? ⟨og, 1, none⟩ = some (.int .i64 ((y : Nat) : Int)) := HOO.out.cellAt 1 (by omega)
          obtain ⟨u0, u1, u2⟩ := HPC.out w5 HB6.out A (by omega)
          obtain ⟨v0, v1, v2⟩ := HPC.out w5 HB6.out x hx
          obtain ⟨t0, t1, t2⟩ := HPC.out w5 HB6.out y hy
          obtain ⟨k0, k1⟩ := HXC.out w5 HB6.out
          have CA1 := Kp.mk (fun (W : Later w5) => CA.out W.val x A hx (by omega))
          have CA2 := Kp.mk (fun (W : Later w5) => CA.out W.val y A hy (by omega))
          rw [show fdist (L.getD x pt0) (L.getD A pt0) = dstL L x A from rfl] at CA1
          rw [show fdist (L.getD y pt0) (L.getD A pt0) = dstL L y A from rfl] at CA2
          obtain ⟨f1, hf1⟩ : ∃ f, dstL L x A = f := ⟨_, rfl⟩
          obtain ⟨f2, hf2⟩ : ∃ f, dstL L y A = f := ⟨_, rfl⟩
          rw [hf1] at CA1 HMX
          rw [hf2] at CA2 HMX
          generalize L.getD x pt0 = px at *
          generalize L.getD y pt0 = py at *
          generalize L.getD A pt0 = pA at *
          have o0' := later_cell o0
          have o1' := later_cell o1
          have u0' := later_cell u0
          have u1' := later_cell u1
          have u2' := later_cell u2
          have v0' := later_cell v0
          have v1' := later_cell v1
          have v2' := later_cell v2
          have t0' := later_cell t0
          have t1' := later_cell t1
          have t2' := later_cell t2
          have k0' := later_cell k0
          have hxz : (x : Int) < a := by omega
          have hyz : (y : Int) < a := by omega
          have hM := HMX.out
          clear o0 o1 u0 u1 u2 v0 v1 v2 t0 t1 t2 k0 k1 hf1 hf2 HOO HB5 hb5 hS5 x0 x1 a0 a1 CN CA HPR hD0 HIN hlo hAB
          go_wp2
          refine region_later (by kernel_rfl) (by kernel_rfl) ?_
          iterate 37 (go_big_quiet_step ((go_at_call 28; first | with_reducible exact q_later (CA1.out _) | with_reducible exact q_later (CA2.out _))))
          refine wpQuiet_nil ?_
          rintro w9 ⟨xl9, rfl⟩
          have HB9 := Kp.mk (below_step HBW6.out (HB6.out.trans (xl9.le.mono HB6.out.size)))
          clear o0' o1' u0' u1' u2' v0' v1' v2' t0' t1' t2' k0' CA1 CA2
          generalize xl9.val = w9 at *
          go_wp2
          go_ret
          exact ⟨rfl, HB9.out⟩

end Go.Proofs.Ytlmdlholmlbcbaa

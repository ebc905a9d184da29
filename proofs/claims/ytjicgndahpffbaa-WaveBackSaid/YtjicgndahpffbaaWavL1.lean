/- The walk of WaveBack. -/
import Derived.Test.YtjicgndahpffbaaWavG
import Derived.Test.YtjicgndahpffbaaNum
namespace Go.Proofs.Ytjicgndahpffbaa
set_option linter.unusedVariables false
open Go.RowKit

theorem pow_cast (K : Nat) : (2 : Int) ^ K = ((2 ^ K : Nat) : Int) := by push_cast; rfl
/-- What Numbers gives below a power of two. -/
theorem nums_pow (l : List Int) (n K : Nat) : ∃ L : List Nat, nums l n (2 ^ K) = L.map Int.ofNat ∧ L.length ≤ n ∧ ∀ y ∈ L, y < 2 ^ K := by
  have hp : 0 < 2 ^ K := Nat.pow_pos (by omega)
  have h0 : (0 : Int) < 2 ^ K := by rw [pow_cast]; omega
  have hb := nums_bd l n (2 ^ K) h0
  refine ⟨(nums l n (2 ^ K)).map Int.toNat, nat_list _ (fun x hx => (hb x hx).1), by rw [List.length_map, nums_length]; omega, fun y hy => ?_⟩
  obtain ⟨x, hx, rfl⟩ := List.mem_map.1 hy
  have := hb x hx
  rw [pow_cast] at this
  omega

set_option maxRecDepth 100000 in
set_option maxHeartbeats 2000000 in
theorem walk_WaveBack (a0 : Option Addr) (len0 cap0 : Nat) (z0 : List Int) (a1 : Int) (w : World) (w0 : IsRow .i64 w a0 len0 cap0 z0) (w1 : (Lit.int .i64 a1).wf = true) :
    Calls Try.prog 3 #[.slice a0 len0 cap0, .int .i64 a1] w fun e w' => e = .returned (.bool true) ∧ Below w.heap.size w w' := by
  obtain ⟨l, rfl, hl, wl, nl⟩ := row_sl w0
  obtain ⟨c1, c2⟩ := wf_bd w1
  unfold maxLen at nl
  have HL := Kp.mk hl
  have WL := Kp.mk wl
  obtain ⟨q1, hq1, l1⟩ := pick_nat a1 12 (by omega)
  obtain ⟨K, hK⟩ : ∃ K, K = 1 + q1 := ⟨_, rfl⟩
  have hKz : (1 : Int) + q1 = K := by omega
  have hK1 : 0 < K := by omega
  have hK2 : K ≤ 12 := by omega
  have HQ1 := Kp.mk hq1
  have HKZ := Kp.mk hKz
  have hp1 : (1 : Int) ≤ 2 ^ K ∧ (2 : Int) ^ K ≤ 4096 := by
    have h1 : 0 < 2 ^ K := Nat.pow_pos (by omega)
    have h2 : 2 ^ K ≤ 2 ^ 12 := Nat.pow_le_pow_right (by omega) hK2
    rw [pow_cast]; omega
  obtain ⟨p1, p2⟩ := hp1
  clear w0 w1 hl wl hq1 hK hKz
  go_enter Try.func3, Try.ntmps3
  go_wp2_with fail
  refine (picked_any a1 12 _ (by omega) (by omega) c1 c2).mono ?_
  rintro e w' ⟨rfl, rfl⟩
  rw [HQ1.out]
  go_upto_region 2 with (fail)
  rw [HKZ.out]
  go_wp2_with fail
  refine (numbers_any a0 cap0 60 (2 ^ K) l w HL.out (by omega) (by omega) (by omega) (by omega) WL.out).mono ?_
  rintro e wa ⟨na, nc, rfl, hO, hb⟩
  obtain ⟨L, hL, hL60, hLb⟩ := nums_pow l 60 K
  unfold OwnI at hO
  rw [hL] at hO ⊢
  have hlen : (L.map Int.ofNat).length = L.length := List.length_map _
  rw [hlen] at hO ⊢
  have HNS := Kp.mk (show SlC wa na L.length nc 1 (nts L) from by rw [nts_ints]; exact own_slc hO)
  have HB := Kp.mk hb
  have HLb := Kp.mk hLb
  obtain ⟨n, hn⟩ : ∃ n, L.length = n := ⟨_, rfl⟩
  rw [hn] at HNS hL60 ⊢
  have HN := Kp.mk hn
  have HLm := Kp.mk (show ∀ y ∈ L, y < 4096 from fun y hy => by
    have h2 : 2 ^ K ≤ 2 ^ 12 := Nat.pow_le_pow_right (by omega) hK2
    have := hLb y hy
    omega)
  clear hO hb hL hLb hlen hn HL WL
  go_wp2_with fail
  refine (waved_any na nc K n L wa HNS.out (by omega) hK1 (by omega) HLb.out).mono ?_
  rintro e wb ⟨sa, sc, rfl, HW, hb⟩
  have hal := below_alloc (Nat.le_refl wb.heap.size) (.cells #[.slice sa K sc] 27)
  have HWc := Kp.mk (HW.out.below hal)
  have HBc := Kp.mk (below_step (below_step HB.out hb) hal)
  have HNc := Kp.mk (SlC.below (SlC.below HNS.out hb) hal)
  have HBX := Kp.mk (Box.new wb #[.slice sa K sc] 27)
  obtain ⟨b7, hb7⟩ : ∃ b7, b7 = wb.heap.size := ⟨_, rfl⟩
  clear hb hal HW HB HNS
  go_upto_region 4 with (fail)
  rw [← hb7] at HBX ⊢
  generalize wb.alloc (.cells #[.slice sa K sc] 27) = wc at *
  clear hb7
  go_wp2
  go_loopw [9] (fun i wr => ∃ k : Nat, k ≤ n ∧ i = .int .i64 k ∧ Kp (Below wc.heap.size wc wr)) (fun i _ => n - (intOf i).toNat)
  case atStart => exact ⟨0, Nat.zero_le _, rfl, ⟨Below.refl _ _⟩⟩
  case round =>
    obtain ⟨k, hk, rfl, HBL⟩ := hrel
    by_cases hlt : k < n
    · have hkL : k < L.length := by rw [HN.out]; exact hlt
      have hx2 := HLb.out _ (List.getElem_mem hkL)
      have hxm := HLm.out _ (List.getElem_mem hkL)
      obtain ⟨x, hx⟩ : ∃ x, L[k] = x := ⟨_, rfl⟩
      have HXG := Kp.mk (show L.getD k 0 = x from by rw [getD_at _ _ hkL]; exact hx)
      have hcnt : ((L.take (k + 1)).filter (· == x)).length = ((L.take k).filter (· == x)).length + 1 := by
        rw [List.take_succ_eq_append_getElem hkL, List.filter_append, List.length_append, hx]; simp
      have hcl : ((L.take k).filter (· == x)).length ≤ k := Nat.le_trans (List.length_filter_le _ _) (List.length_take_le _ _)
      rw [hx] at hx2 hxm
      have HX := Kp.mk hx
      have CA := Kp.mk (wat_any sa sc K n k x L wr (HWc.out.below HBL.out) HN.out (by omega) hK1 (by omega) hlt HXG.out hx2)
      have d0 : wr.cell? ⟨b7, 0, none⟩ = some (.slice sa K sc) := (HBX.out.below HBL.out).cell 0 rfl
      have HCNT := Kp.mk hcnt
      have HX2 := Kp.mk hx2
      clear hx hcnt hx2
      generalize hz : ((L.take k).filter (· == x)).length = z at *
      have HZ := Kp.mk hz
      clear hz
      go_wp2_with fail
      refine CA.out.mono ?_
      rintro e wd ⟨rfl, hbd⟩
      have HBD := Kp.mk (below_step HBL.out hbd)
      clear hbd CA d0
      have hbxd := HBX.out.below HBD.out
      have r0 := later_cell (hbxd.cell 0 rfl)
      obtain ⟨nb, no, rfl, cx⟩ := slN_at (HNc.out.below HBD.out) k hkL
      rw [HX.out] at cx
      have r1 := later_cell cx
      simp only [List.getElem_toArray, List.getElem_cons_zero, List.getElem_cons_succ] at r0
      have C1 := Kp.mk (fun X : Later wd => HZ.out ▸ wrank_any sa sc K n x k L X.val (HWc.out.below (below_step HBD.out X.le)) HN.out (by omega) hK1 (by omega) (by omega) HLb.out HX2.out)
      clear cx hbxd
      go_wp2
      refine region_later (by kernel_rfl) (by kernel_rfl) ?_
      repeat (quiet_step ((go_at_call 19; exact q_later (C1.out _))))
      refine wpQuiet_nil ?_
      rintro w' ⟨xl, rfl⟩
      have HBE := Kp.mk (below_step HBD.out xl.le)
      obtain ⟨we, hwe⟩ : ∃ we, we = xl.val := ⟨_, rfl⟩
      rw [← hwe] at HBE ⊢
      clear hwe r0 r1 C1 HBD
      have hbxe := HBX.out.below HBE.out
      have r0 := later_cell (hbxe.cell 0 rfl)
      obtain ⟨nb', no', hnn, cx⟩ := slN_at (HNc.out.below HBE.out) k hkL
      simp only [Option.some.injEq, Addr.mk.injEq, and_true] at hnn
      obtain ⟨rfl, rfl⟩ := hnn
      rw [HX.out] at cx
      have r1 := later_cell cx
      simp only [List.getElem_toArray, List.getElem_cons_zero, List.getElem_cons_succ] at r0
      have e1 : IntKind.i64.wrap ((k : Int) + 1) = ((k + 1 : Nat) : Int) := IntWalk.i64_in _ (by omega)
      have C2 := Kp.mk (fun X : Later we => HCNT.out ▸ wrank_any sa sc K n x (k + 1) L X.val (HWc.out.below (below_step HBE.out X.le)) HN.out (by omega) hK1 (by omega) (by omega) HLb.out HX2.out)
      clear cx hbxe
      go_upto_region 11 with (fail)
      refine region_later (by kernel_rfl) (by kernel_rfl) ?_
      repeat (quiet_step ((go_at_call 19; exact q_later (C2.out _))))
      refine wpQuiet_nil ?_
      rintro w' ⟨xm, rfl⟩
      have HBF := Kp.mk (below_step HBE.out xm.le)
      obtain ⟨wf, hwf⟩ : ∃ wf, wf = xm.val := ⟨_, rfl⟩
      rw [← hwf] at HBF ⊢
      clear hwf r0 r1 C2 HBE e1
      obtain ⟨nb', no', hnn, cx⟩ := slN_at (HNc.out.below HBF.out) k hkL
      simp only [Option.some.injEq, Addr.mk.injEq, and_true] at hnn
      obtain ⟨rfl, rfl⟩ := hnn
      rw [HX.out] at cx
      have t1 : (((z + 1 : Nat) : Int) != (z : Int) + 1) = false := by simp
      have t2 : ((x : Int) != (x : Int)) = false := by simp
      have t3 : ((z : Int) + 1 != (z : Int) + 1) = false := by simp
      go_wp2
      go_roundw
      case rel => exact ⟨k + 1, by omega, by go_num, HBF⟩
      case measure => simp [intOf]; omega
    · have HBF := Kp.mk (below_step HBc.out HBL.out)
      go_wp2
      go_ret
      exact ⟨rfl, HBF.out⟩

end Go.Proofs.Ytjicgndahpffbaa

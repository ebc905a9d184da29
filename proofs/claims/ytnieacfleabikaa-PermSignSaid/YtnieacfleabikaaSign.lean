/- The walk of PermSign: signs multiply. -/
import Derived.Test.YtnieacfleabikaaSort
import Derived.Test.YtnieacfleabikaaPermN
import Derived.Test.YtnieacfleabikaaCycW
namespace Go.Proofs.Ytnieacfleabikaa
set_option linter.unusedVariables false
open Go.RowKit

set_option maxRecDepth 100000 in
set_option maxHeartbeats 1000000 in
theorem walk_PermSign (a0 : Option Addr) (len0 cap0 : Nat) (z0 : List Int) (a1 : Option Addr) (len1 cap1 : Nat) (z1 : List Int) (a2 : Int) (w : World) (w0 : IsRow .i64 w a0 len0 cap0 z0) (w1 : IsRow .i64 w a1 len1 cap1 z1) (w2 : (Lit.int .i64 a2).wf = true) :
    Calls Try.prog 4 #[.slice a0 len0 cap0, .slice a1 len1 cap1, .int .i64 a2] w fun e w' => e = .returned (.bool true) ∧ Below w.heap.size w w' := by
  obtain ⟨l, rfl, hl, wl, nl⟩ := row_sl w0
  obtain ⟨m, rfl, hm, wm, nm⟩ := row_sl w1
  have F : Facts w [(a0, cap0, l), (a1, cap1, m)] := ((Facts.nil w).cons hm).cons hl
  have HB : Below w.heap.size w w := Below.refl _ _
  have WL := Kp.mk wl
  have WM := Kp.mk wm
  obtain ⟨b1, b2⟩ := wf_bd w2
  unfold maxLen at nl nm
  have hpb := pick_bd a2 40 (by omega)
  obtain ⟨q, hq⟩ : ∃ q : Nat, pick a2 40 = q := ⟨_, (Int.toNat_of_nonneg hpb.1).symm⟩
  obtain ⟨n, hn⟩ : ∃ n : Nat, n = 1 + q := ⟨_, rfl⟩
  have HQ := Kp.mk hq
  have hn1 : (1 : Int) + q = n := by omega
  have HN := Kp.mk hn1
  have hnl : n ≤ 40 := by omega
  have hq40 : q < 40 := by omega
  have hnp : 0 < n := by omega
  clear w0 w1 w2 hl hm wl wm hq hpb hn hn1
  go_enter Try.func4, Try.ntmps4
  go_wp2_with fail
  refine (picked_any a2 40 _ (by omega) (by omega) b1 b2).mono ?_
  rintro e w' ⟨rfl, rfl⟩
  rw [HQ.out]
  go_wp2_with fail
  rw [HN.out]
  refine (shuffle_n _ _ n l _ (F.get 0 rfl) (by omega) (by omega) WL.out).mono ?_
  rintro e w1 ⟨pa, pc, rfl, hs, hb⟩
  have OP := Kp.mk (shuf_order l n n (Nat.le_refl _))
  have LP := Kp.mk (shuf_length l n n)
  generalize shuf l n n = p at *
  replace F := (F.below hb).cons hs
  replace HB := below_step HB hb
  clear hs hb
  go_wp2_with fail
  refine (shuffle_n _ _ n m _ (F.get 2 rfl) (by omega) (by omega) WM.out).mono ?_
  rintro e w2 ⟨qa, qc, rfl, hs, hb⟩
  have OQ := Kp.mk (shuf_order m n n (Nat.le_refl _))
  have LQ := Kp.mk (shuf_length m n n)
  generalize shuf m n n = q at *
  replace F := (F.below hb).cons hs
  replace HB := below_step HB hb
  clear hs hb
  -- q, p, l, m
  go_wp2_with fail
  refine (copied_n _ _ n p _ (F.get 1 rfl) LP.out (by omega)).mono ?_
  rintro e w3 ⟨ca, cc, rfl, hs, hb⟩
  replace F := (F.below hb).cons hs
  replace HB := below_step HB hb
  clear hs hb
  go_wp2_with fail
  refine (swaps_any _ _ n p _ (F.get 0 rfl) LP.out (by omega) OP.out).mono ?_
  rintro e w4 ⟨rfl, hb⟩
  replace F := F.below hb
  replace HB := below_step HB hb
  clear hb
  -- copy, q, p, l, m
  go_wp2_with fail
  refine (copied_n _ _ n q _ (F.get 1 rfl) LQ.out (by omega)).mono ?_
  rintro e w5 ⟨da, dc, rfl, hs, hb⟩
  replace F := (F.below hb).cons hs
  replace HB := below_step HB hb
  clear hs hb
  go_wp2_with fail
  refine (swaps_any _ _ n q _ (F.get 0 rfl) LQ.out (by omega) OQ.out).mono ?_
  rintro e w6 ⟨rfl, hb⟩
  replace F := F.below hb
  replace HB := below_step HB hb
  clear hb
  -- copy, copy, q, p, l, m
  go_wp2_with fail
  refine (then_n _ _ _ _ n p q _ (F.get 3 rfl) (F.get 2 rfl) LP.out LQ.out (by omega) OP.out OQ.out).mono ?_
  rintro e w7 ⟨ta, tc, rfl, hs, hb⟩
  have hA := Kp.mk (sign_then OP.out OQ.out (by rw [LP.out, LQ.out]))
  have hO1 := Kp.mk (thenL_order OP.out OQ.out (by rw [LP.out, LQ.out]))
  have hL1 : Kp ((thenL p q).length = n) := ⟨by rw [thenL_length, LP.out]⟩
  generalize thenL p q = s at *
  replace F := (F.below hb).cons hs
  replace HB := below_step HB hb
  clear hs hb
  go_wp2_with fail
  refine (swaps_any _ _ n s _ (F.get 0 rfl) hL1.out (by omega) hO1.out).mono ?_
  rintro e w8 ⟨rfl, hb⟩
  replace F := F.below hb
  replace HB := below_step HB hb
  clear hb
  -- s, copy, copy, q, p, l, m
  go_wp2_with fail
  refine (copied_n _ _ n p _ (F.get 4 rfl) LP.out (by omega)).mono ?_
  rintro e w9 ⟨ea, ec, rfl, hs, hb⟩
  replace F := (F.below hb).cons hs
  replace HB := below_step HB hb
  clear hs hb
  go_wp2_with fail
  refine (cycles_any _ _ n p _ (F.get 0 rfl) LP.out (by omega) hnp OP.out).mono ?_
  rintro e wA ⟨oa, oc, L, rfl, _, _, hcy, hfl, hb⟩
  have hC := sign_cyc OP.out hcy (by rw [hfl, LP.out])
  rw [LP.out, show (lists L).length = L.length by simp [lists]] at hC
  have HC := Kp.mk hC.1
  have hCl := hC.2
  replace HB := below_step HB hb
  clear hb hcy hfl hC F
  go_wp2_with fail
  have hlit := Kp.mk (own_slc (World.ownsRow_lit (base := 0) (size := 1) (e := 3) wA #[.int .i64 1, .int .i64 0] 2 (Nat.zero_le _) (by decide) rfl))
  have hS := Kp.mk (swaps_any _ _ 2 [1, 0] _ hlit.out rfl (by omega) order_two)
  rw [inv_two] at hS
  refine hS.out.mono ?_
  rintro e wB ⟨rfl, hb⟩
  have i1 := inv_le p
  have i2 := inv_le q
  have i3 := inv_le s
  rw [LP.out] at i1
  rw [LQ.out] at i2
  rw [hL1.out] at i3
  have hnn : n * n ≤ 40 * 40 := Nat.mul_le_mul hnl hnl
  have HBB := Kp.mk (below_step (below_then_alloc HB _) hb)
  clear hb hS hlit
  have hA' := hA.out
  have hC' := HC.out
  generalize inv p = x at *
  generalize inv q = y at *
  generalize inv s = z at *
  replace i1 : x ≤ 1600 := by omega
  replace i2 : y ≤ 1600 := by omega
  replace i3 : z ≤ 1600 := by omega
  have e1 : (((x : Int) + y + z) % 2 == 0) = true := by simp only [beq_iff_eq]; omega
  have e2 : (((x : Int) + n - L.length) % 2 == 0) = true := by simp only [beq_iff_eq]; omega
  clear hA' hC' hnn
  go_wp2
  go_ret
  exact ⟨rfl, HBB.out⟩

end Go.Proofs.Ytnieacfleabikaa

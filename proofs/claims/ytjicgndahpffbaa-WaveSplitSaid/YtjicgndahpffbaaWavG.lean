/- The laws' own waved; wave.Kth behind the last one. -/
import Derived.Test.YtjicgndahpffbaaWavF
namespace Go.Proofs.Ytjicgndahpffbaa
set_option linter.unusedVariables false
open Go.RowKit

theorem two_one (w : World) : SlC (w.alloc (.cells #[.int .i64 2, .int .i64 1] 3)) (some ⟨w.heap.size, 0, none⟩) 2 2 1 (nts [2, 1]) :=
  own_slc (World.ownsRow_lit (base := 0) w #[.int .i64 2, .int .i64 1] 2 (Nat.zero_le _) (by decide) rfl)

/-- What waved hands back. -/
def WavedRet (w : World) (K : Nat) (l : List Nat) (e : Ending) (w' : World) : Prop := ∃ sa cap, e = .returned (.tuple #[.agg #[.slice sa K cap], .bool true]) ∧ Kp (IsWave w' sa cap K l) ∧ Below w.heap.size w w'

set_option maxRecDepth 100000 in
set_option maxHeartbeats 2000000 in
theorem waved_any (a : Option Addr) (cap K n : Nat) (l : List Nat) (w : World) (h : SlC w a n cap 1 (nts l)) (hn : n ≤ 300) (hK : 0 < K) (hK2 : K ≤ 21) (hb : ∀ y ∈ l, y < 2 ^ K) :
    Calls Try.prog 17 #[.slice a n cap, .int .i64 K] w (WavedRet w K l) := by
  have HL := Kp.mk (show l.length = n from by have := h.hlen; rw [nts_length] at this; omega)
  have HA := Kp.mk (below_alloc (Nat.le_refl w.heap.size) (.cells #[.slice none 0 0] 27))
  have HB4 := Kp.mk (Box.new w #[.slice none 0 0] 27)
  have H := Kp.mk (SlC.below h HA.out)
  have HB := Kp.mk hb
  obtain ⟨b4, hb4⟩ : ∃ b4, b4 = w.heap.size := ⟨_, rfl⟩
  have HE4 := Kp.mk hb4
  clear h hb
  go_enter Try.func17, Try.ntmps17
  go_upto_region 1 with (fail)
  rw [← hb4] at HB4 ⊢
  generalize w.alloc (.cells #[.slice none 0 0] 27) = w1 at *
  clear hb4
  go_wp2_with fail
  refine (copied_n a cap n (l.map Int.ofNat) w1 (by unfold SlI; rw [List.length_map, HL.out, ← nts_ints]; exact H.out) (by rw [List.length_map, HL.out]) (by omega)).mono ?_
  rintro e w2 ⟨ca, cc, rfl, hc, hb⟩
  have HC := Kp.mk (show SlC w2 ca n cc 1 (nts l) from by rw [nts_ints]; have := hc; unfold SlI at this; rwa [List.length_map, HL.out] at this)
  have HB42 := Kp.mk (HB4.out.below hb)
  have HA2 := Kp.mk (below_step HA.out hb)
  clear hc hb HB4 HA H
  go_wp2_with fail
  refine (wmake_any ca cc K n l w2 HC.out hn hK hK2 HB.out).mono ?_
  rintro e w3 ⟨sa, sc, rfl, HW3, hb⟩
  have HB43 := Kp.mk (HB42.out.below hb)
  have HA3 := Kp.mk (below_step HA2.out hb)
  have hal := below_alloc (Nat.le_refl w3.heap.size) (.cells #[.slice sa K sc] 27)
  have HB44 := Kp.mk (HB43.out.below hal)
  have HA4 := Kp.mk (below_step HA3.out hal)
  have HW4 := Kp.mk (HW3.out.below hal)
  have HB6 := Kp.mk (Box.new w3 #[.slice sa K sc] 27)
  obtain ⟨b6, hb6⟩ : ∃ b6, b6 = w3.heap.size := ⟨_, rfl⟩
  have h46 : b4 ≠ b6 := by have := HB43.out.lt; omega
  clear hb hal HB43 HA3 HW3 HB42 HA2 HC
  go_upto_region 2 with (fail)
  rw [← hb6] at HB6 ⊢
  generalize w3.alloc (.cells #[.slice sa K sc] 27) = w4 at *
  clear hb6
  have hal := below_alloc (Nat.le_refl w4.heap.size) (.cells #[.int .i64 2, .int .i64 1] 3)
  have hbb : ∀ y ∈ [2, 1], y < 2 ^ 2 := by decide
  have C2 := Kp.mk (wmake_any (some ⟨w4.heap.size, 0, none⟩) 2 2 2 [2, 1] _ (two_one w4) (by omega) (by omega) (by omega) hbb)
  have HB45 := Kp.mk (HB44.out.below hal)
  have HA5 := Kp.mk (below_step HA4.out hal)
  have HW5 := Kp.mk (HW4.out.below hal)
  have HB65 := Kp.mk (HB6.out.below hal)
  clear hal HB44 HA4 HW4 HB6
  go_wp2_with fail
  refine C2.out.mono ?_
  rintro e w5 ⟨oa, oc, rfl, _, hb⟩
  have HB46 := Kp.mk (HB45.out.below hb)
  have HA6 := Kp.mk (below_step HA5.out hb)
  have HW6 := Kp.mk (HW5.out.below hb)
  have HB66 := Kp.mk (HB65.out.below hb)
  have hal := below_alloc (Nat.le_refl w5.heap.size) (.cells #[.slice oa 2 oc] 27)
  have HB47 := Kp.mk (HB46.out.below hal)
  have HA7 := Kp.mk (below_step HA6.out hal)
  have HW7 := Kp.mk (HW6.out.below hal)
  have HB67 := Kp.mk (HB66.out.below hal)
  have HB8 := Kp.mk (Box.new w5 #[.slice oa 2 oc] 27)
  obtain ⟨b8, hb8⟩ : ∃ b8, b8 = w5.heap.size := ⟨_, rfl⟩
  have h48 : b4 ≠ b8 := by have := HB46.out.lt; omega
  clear hb hal C2 HB45 HA5 HW5 HB65 HB46 HA6 HW6 HB66
  go_upto_region 3 with (fail)
  rw [← hb8] at HB8 ⊢
  generalize w5.alloc (.cells #[.slice oa 2 oc] 27) = w6 at *
  clear hb8
  have y6 : w6.cell? ⟨b6, 0, none⟩ = some (.slice sa K sc) := HB67.out.cell 0 rfl
  have y8 : w6.cell? ⟨b8, 0, none⟩ = some (.slice oa 2 oc) := HB8.out.cell 0 rfl
  have y4 : w6.cell? ⟨b4, 0, none⟩ = some (.slice none 0 0) := HB47.out.cell 0 rfl
  have f4 := HB47.out.free 0
  have n46 : b6 ≠ b4 := fun e => h46 e.symm
  have n48 : b8 ≠ b4 := fun e => h48 e.symm
  have C1 := Kp.mk (fun W (hW : IsWave W sa sc K l) => wmay_any sa sc K n l W hW HL.out hn hK hK2)
  have HWS := Kp.mk (show IsWave (w6.setCell ⟨b4, 0, none⟩ (.slice sa K sc)) sa sc K l from HW7.out.setBox HB47.out)
  have HWd := Kp.mk (show IsWave w6.drew sa sc K l from HW7.out.below ((Below.refl _ _).drew))
  have HWSd := Kp.mk (show IsWave (w6.setCell ⟨b4, 0, none⟩ (.slice sa K sc)).drew sa sc K l from HWS.out.below ((Below.refl _ _).drew))
  have HSS := Kp.mk (fun (W w' : World) (hb : Below W.heap.size W w') (h6 : W.cell? ⟨b6, 0, none⟩ = some (.slice sa K sc)) (h8 : W.cell? ⟨b8, 0, none⟩ = some (.slice oa 2 oc)) => show w'.cell? ⟨b6, 0, none⟩ = some (.slice sa K sc) ∧ w'.cell? ⟨b8, 0, none⟩ = some (.slice oa 2 oc) from ⟨(hb.cell (p := ⟨b6, 0, none⟩) (World.block_lt_of_cell? _ _ h6)).trans h6, (hb.cell (p := ⟨b8, 0, none⟩) (World.block_lt_of_cell? _ _ h8)).trans h8⟩)
  have y6s : (w6.setCell ⟨b4, 0, none⟩ (.slice sa K sc)).drew.cell? ⟨b6, 0, none⟩ = some (.slice sa K sc) := (box_setC HB67.out h46).cell 0 rfl
  have y8s : (w6.setCell ⟨b4, 0, none⟩ (.slice sa K sc)).drew.cell? ⟨b8, 0, none⟩ = some (.slice oa 2 oc) := (box_setC HB8.out h48).cell 0 rfl
  go_region_held3 (fun w' => w'.cell? ⟨b6, 0, none⟩ = some (.slice sa K sc) ∧ w'.cell? ⟨b8, 0, none⟩ = some (.slice oa 2 oc))
    (first | exact hS | go_keep)
    ((first
      | (go_at_call 49; refine (C1.out _ HWd.out).mono ?_; rintro e w' ⟨rfl, hbm⟩; have hS := HSS.out _ _ hbm y6 y8; have hz4 : Box w' b4 _ _ := Box.below (w := w6.drew) HB47.out hbm; have z4 := hz4.cell 0 rfl; have zf := hz4.free 0)
      | (go_at_call 49; refine (C1.out _ HWSd.out).mono ?_; rintro e w' ⟨rfl, hbm⟩; have hS := HSS.out _ _ hbm y6s y8s)))
  · have hbm' : Below w6.heap.size w6 w' := ((Below.refl w6.heap.size w6).drew).trans hbm
    have HWF := Kp.mk ((HW7.out.below hbm').setBox (o := 0) (v := .slice sa K sc) hz4)
    have HBF := Kp.mk ((below_step HA7.out hbm').trans (below_of_grown (grown_set w' b4 0 (.slice sa K sc)) (below_step HA7.out hbm').size (fun q hq => by simp at hq; have := HE4.out; omega)))
    have zr := (box_put (i := 0) hz4 (.slice sa K sc)).cell 0 rfl
    clear HL HB HE4 HB47 HA7 HW7 HB67 HB8 C1 HWS HWd HWSd HSS hS hz4 hbm hbm' y6 y8 y4 f4 y6s y8s z4 zf
    generalize w'.setCell ⟨b4, 0, none⟩ (.slice sa K sc) = w8 at *
    go_wp2
    exact bodyPost_ret (v := .tuple #[.agg #[.slice sa K sc], .bool true]) (by
      rw [results_cell_tmp rfl]
      go_simp) rfl ⟨sa, sc, rfl, HWF, HBF.out⟩

set_option maxHeartbeats 1000000 in
theorem wKth_none (a : Option Addr) (cap K n p q : Nat) (l : List Nat) (w : World) (h : IsWave w a cap K l) (hl : l.length = n) (hn : n ≤ 300) (hK : 0 < K) (hK2 : K ≤ 21) (hpq : p ≤ q) (hq : q ≤ n) :
    Calls Try.prog 22 #[.agg #[.slice a K cap], .int .i64 p, .int .i64 q, .int .i64 ((q - p : Nat) : Int)] w fun e w' => e = .returned (.tuple #[.int .i64 0, .int .i64 7]) ∧ Below w.heap.size w w' := by
  have HA := Kp.mk (below_alloc (Nat.le_refl w.heap.size) (.cells #[.slice a K cap] 27))
  have HBX := Kp.mk (Box.new w #[.slice a K cap] 27)
  have C := Kp.mk (wfault_any a cap K n p q l _ (h.below HA.out) hl hn hK hK2 hpq hq)
  have d0 : (w.alloc (.cells #[.slice a K cap] 27)).cell? ⟨w.heap.size, 0, none⟩ = some (.slice a K cap) := HBX.out.cell 0 rfl
  obtain ⟨kk, hkk⟩ : ∃ kk, q - p = kk := ⟨_, rfl⟩
  rw [hkk]
  have t1 : decide ((kk : Int) < 0) = false := decide_eq_false (by omega)
  have t3 : ((q : Int) - p ≤ kk) := by omega
  clear h hl hkk
  go_enter Try.func22, Try.ntmps22
  go_wp2_with fail
  refine C.out.mono ?_
  rintro e w1 ⟨rfl, hb⟩
  have HB1 := Kp.mk (below_step HA.out hb)
  clear hb C d0 HBX HA
  go_wp2
  go_ret2
  exact ⟨rfl, HB1.out⟩

end Go.Proofs.Ytjicgndahpffbaa

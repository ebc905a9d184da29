/- The walk of GamBack. -/
import Derived.Test.YtjofajpcchncpaaGamB
import Derived.Test.YtjofajpcchncpaaCod
namespace Go.Proofs.Ytjofajpcchncpaa
set_option linter.unusedVariables false
open Go.RowKit

theorem nat_one (l : List Int) (h : ∀ x ∈ l, 1 ≤ x ∧ x ≤ 1048576) : ∃ L : List Nat, l = L.map Int.ofNat ∧ L.length = l.length ∧ ∀ i, i < L.length → 1 ≤ L.getD i 0 ∧ L.getD i 0 ≤ 1048576 := by
  refine ⟨l.map Int.toNat, nat_list l (fun x hx => by have := h x hx; omega), List.length_map _, fun i hi => ?_⟩
  rw [List.length_map] at hi
  have h1 := h _ (List.getElem_mem hi)
  simp only [List.getD, List.getElem?_map, List.getElem?_eq_getElem hi, Option.map_some, Option.getD_some]
  omega
theorem enc_len (k : Nat) (L : List Nat) (m : Nat) (h : ∀ i, i < m → 1 ≤ L.getD i 0 ∧ L.getD i 0 ≤ 1048576) : (encL k L m).length ≤ 41 * m := by
  induction m with
  | zero => rw [encL_zero]; simp
  | succ m ih =>
    have h1 := ih (fun i hi => h i (by omega))
    obtain ⟨x1, x2⟩ := h m (by omega)
    have := (len_code k (L.getD m 0) (L.getD m 0) (by omega) (Nat.le_refl _) x2).2.2
    rw [encL_succ, List.length_append]; omega
theorem code_five : (codeL 1 5).length = 5 := by
  unfold codeL
  rw [if_neg (by omega), gamL_length 5 (by omega) (by omega)]
  decide

set_option maxRecDepth 100000 in
set_option maxHeartbeats 1000000 in
theorem walk_GamBack (a0 : Int) (a1 : Option Addr) (len1 cap1 : Nat) (z1 : List Int) (w : World) (w0 : (Lit.int .i64 a0).wf = true) (w1 : IsRow .i64 w a1 len1 cap1 z1) :
    Calls Try.prog 10 #[.int .i64 a0, .slice a1 len1 cap1] w fun e w' => e = .returned (.bool true) ∧ Below w.heap.size w w' := by
  obtain ⟨l, rfl, hl, wl, nl⟩ := row_sl w1
  obtain ⟨b1, b2⟩ := wf_bd w0
  obtain ⟨k, hk, hk12⟩ := kind_nat a0
  have HL := Kp.mk hl
  have WL := Kp.mk wl
  have HK := Kp.mk hk
  have HK12 := Kp.mk hk12
  unfold maxLen at nl
  clear w0 w1 hl wl hk hk12
  go_enter Try.func10, Try.ntmps10
  go_wp2_with fail
  refine (kind_any a0 _ b1 b2).mono ?_
  rintro e w' ⟨rfl, rfl⟩
  rw [HK.out]
  go_wp2_with fail
  refine (codable_any a1 cap1 90 l w HL.out (by omega) (by omega) WL.out).mono ?_
  rintro e wa ⟨sa, sc, rfl, hown, hbel⟩
  have hlen : (cods l 90).length ≤ 90 := by rw [cods_length]; omega
  obtain ⟨L, hL, hLL, hLx⟩ := nat_one (cods l 90) (cods_bd l 90)
  have hS := hown.sl
  rw [hL] at hS
  generalize (cods l 90).length = m at *
  have HLL := Kp.mk hLL
  have HLN : Kp ((L.map Int.ofNat).length = m) := ⟨by rw [List.length_map]; exact HLL.out⟩
  have HX : Kp (∀ i, i < m → 1 ≤ L.getD i 0 ∧ L.getD i 0 ≤ 1048576) := ⟨fun i hi => hLx i (by rw [HLL.out]; exact hi)⟩
  have hE : (encL k L m).length ≤ 4096 := by have := enc_len k L m HX.out; omega
  have HS := Kp.mk hS
  have HB := Kp.mk hbel
  clear hL hLL hLx hS hown hbel
  go_wp2_with fail
  refine (copied_n sa sc m _ _ HS.out HLN.out (by omega)).mono ?_
  rintro e wb ⟨s1, c1, rfl, hS1, hb1⟩
  have HB1 := Kp.mk (below_step HB.out hb1)
  have HS1 := Kp.mk (HS.out.below hb1)
  clear hb1 HB HS
  go_wp2_with fail
  refine (genc_any s1 c1 m k L _ hS1 HLL.out (by omega) HK12.out HX.out hE).mono ?_
  rintro e wc ⟨so, co, rfl, hO, hb2⟩
  have HB2 := Kp.mk (below_step HB1.out hb2)
  have HS2 := Kp.mk (HS1.out.below hb2)
  have HO := Kp.mk hO
  clear hb2 HB1 HS1 hS1 hO
  have hal := below_alloc (Nat.le_refl wc.heap.size) (Obj.cells #[Value.int IntKind.i64 ((encL k L m).length : Nat), Value.slice so (bwN (encL k L m).length) co] 49)
  have hbx := Box.new wc #[Value.int IntKind.i64 ((encL k L m).length : Nat), Value.slice so (bwN (encL k L m).length) co] 49
  have C := Kp.mk (gdec_any k _ m co L so _ HK12.out (by omega) HLL.out HX.out hE (own_below HO.out hal))
  have HAL := Kp.mk hal
  have HBX := Kp.mk hbx
  clear hal hbx
  go_wp2_with fail
  refine C.out.mono ?_
  rintro e wd ⟨sd, cd, rfl, hOd, hb3⟩
  have HB3 := Kp.mk (below_step (below_step HB2.out HAL.out) hb3)
  have HS3 := Kp.mk ((HS2.out.below HAL.out).below hb3)
  have HBX3 := Kp.mk (HBX.out.below hb3)
  have HOD := Kp.mk (own_sl_len hOd HLN.out)
  have hwd : wc.heap.size < wd.heap.size := HBX3.out.lt
  clear hOd hb3 C HB2 HS2 HAL HBX HO
  go_wp2
  go_loopw [11, 12] (fun s i wr => ∃ j : Nat, j ≤ m ∧ i = .int .i64 j ∧ s = .int .i64 ((encL k L j).length : Nat) ∧ Below wd.heap.size wd wr) (fun _ i _ => m - (intOf i).toNat)
  case atStart => exact ⟨0, Nat.zero_le _, rfl, by rw [encL_zero]; rfl, Below.refl _ _⟩
  case round =>
    obtain ⟨j, hj, rfl, rfl, hbel⟩ := hrel
    have HBE := Kp.mk hbel
    have hmo := encL_mono k L j m hj
    clear hbel
    by_cases hlt : j < m
    · obtain ⟨b, off, rfl, c1⟩ := (HS3.out.below HBE.out).at j (by rw [HLN.out]; exact hlt)
      have e1 : (L.map Int.ofNat)[j]'(by rw [HLN.out]; exact hlt) = ((L.getD j 0 : Nat) : Int) := by
        have := HLL.out
        simp [List.getD, List.getElem?_eq_getElem (show j < L.length by omega)]
      rw [e1] at c1
      clear e1
      obtain ⟨x1, x2⟩ := HX.out j hlt
      have hsu := Kp.mk (show (encL k L (j + 1)).length = (encL k L j).length + (codeL k (L.getD j 0)).length by rw [encL_succ, List.length_append])
      have hlc := (len_code k (L.getD j 0) (L.getD j 0) (by omega) (Nat.le_refl _) x2).2.2
      have C := Kp.mk (gcost_any k (L.getD j 0) wr HK12.out (by omega) x2)
      generalize L.getD j 0 = x at *
      generalize (codeL k x).length = y at *
      generalize (encL k L j).length = z at *
      have hz : z ≤ 4096 := by omega
      go_wp2_with fail
      refine C.out.mono ?_
      rintro e we ⟨rfl, hb⟩
      have HBE2 := Kp.mk (below_step HBE.out hb)
      clear hb C c1
      go_wp2
      go_roundw
      case rel => exact ⟨j + 1, by omega, by go_num, by rw [hsu.out]; go_num, HBE2.out⟩
      case measure => simp [intOf]; omega
    · obtain rfl : j = m := by omega
      have C := Kp.mk (gcost_any 1 5 wr (.inl rfl) (by omega) (by omega))
      rw [code_five] at C
      go_wp2_with fail
      refine C.out.mono ?_
      rintro e we ⟨rfl, hb⟩
      have hbb := below_step HBE.out hb
      have HBE2 := Kp.mk hbb
      have d0 : we.cell? ⟨wc.heap.size, 0, none⟩ = some (.int .i64 ((encL k L j).length : Nat)) := (HBX3.out.below hbb).cell 0 rfl
      have Q := Kp.mk (sameInts_same sd sa cd sc j _ _ we (HOD.out.below hbb) (HS3.out.below hbb) HLN.out HLN.out rfl (by omega))
      clear hb hbb C
      generalize (encL k L j).length = z at *
      have t1 : ((z : Int) == z) = true := by simp
      go_wp2_with fail
      refine Q.out.mono ?_
      rintro e wf ⟨rfl, hb⟩
      have HBF := Kp.mk (below_step HB3.out (below_step HBE2.out hb))
      clear hb Q
      go_wp2
      go_ret
      exact ⟨rfl, HBF.out⟩

end Go.Proofs.Ytjofajpcchncpaa

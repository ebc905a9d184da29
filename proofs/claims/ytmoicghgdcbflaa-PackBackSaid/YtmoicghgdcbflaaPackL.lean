/- The walk of PackBack. -/
import Derived.Test.YtmoicghgdcbflaaPackA
namespace Go.Proofs.Ytmoicghgdcbflaa
set_option linter.unusedVariables false
open Go.RowKit

theorem nat_list (l : List Int) (h : ∀ x ∈ l, 0 ≤ x) : l = (l.map Int.toNat).map Int.ofNat := by
  rw [List.map_map]
  conv => lhs; rw [← List.map_id l]
  apply List.map_congr_left
  intro x hx
  have := h x hx
  show x = ((x.toNat : Nat) : Int)
  omega

theorem later_cell {w : World} {b o : Nat} {v : Value} (h : w.cell? ⟨b, o, none⟩ = some v) : ∀ x : Later w, x.val.cell? ⟨b, o, none⟩ = some v := fun x => by
  rw [x.le.cell (p := ⟨b, o, none⟩) (World.block_lt_of_cell? w _ h)]; exact h

theorem one_fits : ∀ i, i < 1 → ([5] : List Nat).getD i 0 < 2 ^ 3 := fun i hi => by
  obtain rfl : i = 0 := by omega
  decide
theorem five (w : World) (b : Nat) (h : b = w.heap.size) : SlI (w.alloc (.cells #[.int .i64 5] 3)) (some ⟨b, 0, none⟩) 1 [5] := by
  subst h
  exact own_slc (World.ownsRow_lit (base := 0) w #[.int .i64 5] 1 (Nat.zero_le _) (by decide) rfl)

set_option maxHeartbeats 1000000 in
theorem walk_PackBack (a0 : Option Addr) (len0 cap0 : Nat) (z0 : List Int) (a1 : Int) (w : World) (w0 : IsRow .i64 w a0 len0 cap0 z0) (w1 : (Lit.int .i64 a1).wf = true) :
    Calls Try.prog 14 #[.slice a0 len0 cap0, .int .i64 a1] w fun e w' => e = .returned (.bool true) ∧ Below w.heap.size w w' := by
  obtain ⟨l, rfl, hl, wl, nl⟩ := row_sl w0
  obtain ⟨b1, b2⟩ := wf_bd w1
  have HL := Kp.mk hl
  have WL := Kp.mk wl
  unfold maxLen at nl
  have hpb := pick_bd a1 63 (by omega)
  obtain ⟨wd, hk⟩ : ∃ q : Nat, pick a1 63 = q := ⟨_, (Int.toNat_of_nonneg hpb.1).symm⟩
  have HK := Kp.mk hk
  have hwd : wd ≤ 62 := by omega
  have hp1 : (1 : Int) ≤ 2 ^ wd := by
    have : 0 < 2 ^ wd := Nat.pow_pos (by omega)
    have e : (2 : Int) ^ wd = ((2 ^ wd : Nat) : Int) := by push_cast; rfl
    omega
  have hp2 : (2 : Int) ^ wd ≤ 4611686018427387904 := by
    have : 2 ^ wd ≤ 2 ^ 62 := Nat.pow_le_pow_right (by omega) hwd
    have e : (2 : Int) ^ wd = ((2 ^ wd : Nat) : Int) := by push_cast; rfl
    omega
  clear w0 w1 hl wl hpb hk
  go_enter Try.func14, Try.ntmps14
  go_wp2_with fail
  refine (picked_any a1 63 _ (by omega) (by omega) b1 b2).mono ?_
  rintro e w' ⟨rfl, rfl⟩
  rw [HK.out]
  go_wp2_with fail
  refine (numbers_any a0 cap0 100 (2 ^ wd) l _ HL.out (by omega) (by omega) (by omega) (by omega) WL.out).mono ?_
  rintro e w1 ⟨sn, cn, rfl, hown, hbel⟩
  have hnn := nat_list (nums l 100 (2 ^ wd)) (fun x hx => (nums_bd l 100 (2 ^ wd) (by omega) x hx).1)
  have hlt : ∀ i, i < (nums l 100 (2 ^ wd)).length → ((nums l 100 (2 ^ wd)).map Int.toNat).getD i 0 < 2 ^ wd := fun i hi => by
    have := (nums_bd l 100 (2 ^ wd) (by omega) _ (List.getElem_mem hi)).2
    have h0 := (nums_bd l 100 (2 ^ wd) (by omega) _ (List.getElem_mem hi)).1
    have e : (2 : Int) ^ wd = ((2 ^ wd : Nat) : Int) := by push_cast; rfl
    simp only [List.getD, List.getElem?_map, List.getElem?_eq_getElem hi, Option.map_some, Option.getD_some]
    omega
  have hn100 : (nums l 100 (2 ^ wd)).length ≤ 100 := by rw [nums_length]; omega
  have hll : ((nums l 100 (2 ^ wd)).map Int.toNat).length = (nums l 100 (2 ^ wd)).length := List.length_map _
  have HLL := Kp.mk hll
  have HNN := Kp.mk hnn
  have HLT := Kp.mk hlt
  have hS := hown.sl
  rw [HNN.out] at hS
  generalize (nums l 100 (2 ^ wd)).map Int.toNat = L at *
  generalize (nums l 100 (2 ^ wd)).length = n at *
  have HS := Kp.mk hS
  have HB := Kp.mk hbel
  have HLN : Kp ((L.map Int.ofNat).length = n) := ⟨by rw [List.length_map]; exact HLL.out⟩
  clear hnn hlt hll hown hS hbel
  go_wp2_with fail
  refine (copied_n sn cn n _ _ HS.out HLN.out (by omega)).mono ?_
  rintro e w2 ⟨s2, c2, rfl, hS2, hb2⟩
  go_wp2_with fail
  refine (make_ok s2 c2 wd n L _ hS2 HLL.out (by omega) hwd HLT.out).mono ?_
  rintro e w3 ⟨sp, cp, rfl, hO3, hb3⟩
  rw [HLL.out] at hO3 ⊢
  obtain ⟨m, hm⟩ : ∃ m, m = wordsN n wd := ⟨_, rfl⟩
  rw [← hm] at hO3 ⊢
  have HM := Kp.mk hm
  have HO3 := Kp.mk hO3
  have hb23 : Below w.heap.size w w3 := HB.out.trans ((hb2.trans (hb3.mono hb2.size)).mono HB.out.size)
  have HB3 := Kp.mk hb23
  have HS3 := Kp.mk (HS.out.below (hb2.trans (hb3.mono hb2.size)))
  have hB2 : Kp (w.heap.size ≤ w2.heap.size) := ⟨Nat.le_trans HB.out.size hb2.size⟩
  clear hm hO3 hS2 hb2 hb3 hb23
  go_wp2_with fail
  refine (make_ok (some ⟨w3.heap.size + 1, 0, none⟩) 1 3 1 [5] _ ?s5 rfl (by omega) (by omega) one_fits).mono ?_
  case s5 => exact five _ _ (by simp)
  rintro e w4 ⟨so, co, rfl, hO4, hb4⟩
  have e1 : wordsN [5].length 3 = 1 := rfl
  have e2 : wds (wordsOf (packN 3 [5] [5].length) 1) = [.int .u64 5] := rfl
  rw [e1, e2] at hO4
  rw [e1]
  clear e1 e2
  obtain ⟨g, rfl, hg1, hg2⟩ := own_some hO4 (by omega)
  have f3 := ((Box.new w3 #[Value.int IntKind.i64 ↑n, Value.int IntKind.i64 ↑wd, Value.slice sp m cp] 70).alloc (Obj.cells #[Value.int IntKind.i64 5] 3)).below hb4
  have hb34 := below_step (below_then_alloc (below_alloc (Nat.le_refl _) _) _) hb4
  obtain ⟨W, hW⟩ : ∃ W, W = w4.alloc (Obj.cells #[Value.int IntKind.i64 1, Value.int IntKind.i64 3, Value.slice (some ⟨g, 0, none⟩) 1 co] 70) := ⟨_, rfl⟩
  have hbW : Below w4.heap.size w4 W := by rw [hW]; exact below_alloc (Nat.le_refl _) _
  have k5 : W.cell? ⟨g, 0, none⟩ = some (.int .u64 5) := (own_below hO4 hbW).cellAt 0 (by omega)
  obtain ⟨⟨-, -, k9⟩, -⟩ := box3 (show Box W w4.heap.size _ _ by rw [hW]; exact Box.new _ _ _)
  have fW := f3.below hbW
  obtain ⟨⟨p0, p1, p2⟩, -⟩ := box3 fW
  have hb3W := below_step hb34 hbW
  have HO := Kp.mk (own_below HO3.out hb3W)
  have HBW := Kp.mk (below_step HB3.out hb3W)
  have HSW := Kp.mk (HS3.out.below hb3W)
  have HFW := Kp.mk fW
  clear hb3W fW hbW f3 hb34 hO4 hg1 hg2 hb4
  have hmay := Kp.mk (may_ok sp n wd m cp _ W HM.out (own_slc HO.out) (by omega) hwd (packN_lt wd L n HLT.out))
  have hp : n * wd ≤ 100 * 62 := Nat.mul_le_mul hn100 hwd
  have hpw : IntKind.i64.wrap ((n : Int) * wd) = ((n * wd : Nat) : Int) := by
    have : (n : Int) * wd = ((n * wd : Nat) : Int) := by push_cast; rfl
    rw [this]; exact IntWalk.i64_in _ (by omega)
  have hdv : (((n * wd : Nat) : Int) + 63) / 64 = (m : Int) := by rw [HM.out]; unfold wordsN; omega
  generalize n * wd = p at *
  subst hW
  go_wp2_with (fail)
  clear k9 k5 p0 p1
  generalize w4.alloc _ = W at *
  refine hmay.out.mono ?_
  rintro e W2 ⟨rfl, hb⟩
  obtain ⟨⟨p0, p1, p2'⟩, -⟩ := box3 (HFW.out.below hb)
  have HO2 := Kp.mk (own_below HO.out hb)
  have HBW2 := Kp.mk (below_step HBW.out hb)
  have HSW2 := Kp.mk (HSW.out.below hb)
  have HFW2 := Kp.mk (HFW.out.below hb)
  clear hb hmay HO HBW HSW HFW p2 HO3 HB3 HS3 HS HB
  go_wp2
  clear p0 p1 p2' hpw hdv
  go_loopw [11] (fun i wr => ∃ k : Nat, k ≤ n ∧ i = .int .i64 k ∧ Below W2.heap.size W2 wr) (fun i _ => n - (intOf i).toNat)
  case atStart => exact ⟨0, Nat.zero_le _, rfl, Below.refl _ _⟩
  case round =>
    obtain ⟨k, hk, rfl, hbel⟩ := hrel
    obtain ⟨⟨p0, p1, p2⟩, -⟩ := box3 (HFW2.out.below hbel)
    have HBL := Kp.mk (below_step HBW2.out hbel)
    have HBE := Kp.mk hbel
    by_cases hlt : k < n
    · have hat := Kp.mk (pat_ok w2.heap.size sp m cp n k wd L wr HM.out (own_below HO2.out hbel) (by omega) hwd hlt HLT.out)
      clear hbel
      go_wp2_with fail
      refine hat.out.mono ?_
      rintro e w5 ⟨rfl, hb5⟩
      obtain ⟨b, off, rfl, c1⟩ := (HSW2.out.below (below_step HBE.out hb5)).at k (by rw [HLN.out]; exact hlt)
      have e1 : (L.map Int.ofNat)[k]'(by rw [HLN.out]; exact hlt) = ((L.getD k 0 : Nat) : Int) := by
        have := HLL.out
        simp [List.getD, List.getElem?_eq_getElem (show k < L.length by omega)]
      rw [e1] at c1
      clear e1
      generalize L.getD k 0 = x at *
      have e2 : ((x : Int) != x) = false := by simp
      have HB5 := Kp.mk hb5
      clear hb5 p0 p1 p2 hat
      go_wp2
      go_roundw
      case rel => exact ⟨k + 1, by omega, by go_num, below_step HBE.out HB5.out⟩
      case measure => simp [intOf]; omega
    · clear hbel
      go_wp2
      go_ret
      exact ⟨rfl, HBL.out⟩

end Go.Proofs.Ytmoicghgdcbflaa

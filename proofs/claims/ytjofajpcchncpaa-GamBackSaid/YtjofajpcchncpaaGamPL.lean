/- The walk of GamPrefix. -/
import Derived.Test.YtjofajpcchncpaaGamQ
namespace Go.Proofs.Ytjofajpcchncpaa
set_option linter.unusedVariables false
open Go.RowKit

theorem kind_any (a : Int) (w : World) (b1 : -9223372036854775808 ≤ a) (b2 : a ≤ 9223372036854775807) :
    Calls Try.prog 31 #[.int .i64 a] w fun e w' => e = .returned (.int .i64 (1 + pick a 2)) ∧ w = w' := by
  have hpb := pick_bd a 2 (by omega)
  go_enter Try.func31, Try.ntmps31
  go_wp2_with fail
  refine (picked_any a 2 _ (by omega) (by omega) b1 b2).mono ?_
  rintro e w' ⟨rfl, rfl⟩
  generalize hpp : pick a 2 = p at *
  have HPP := Kp.mk hpp
  clear hpp
  go_wp2
  go_ret
  exact ⟨by rw [HPP.out]; rfl, rfl⟩
theorem kind_nat (a : Int) : ∃ k : Nat, 1 + pick a 2 = (k : Int) ∧ (k = 1 ∨ k = 2) := by
  have hpb := pick_bd a 2 (by omega)
  exact ⟨(1 + pick a 2).toNat, by omega, by omega⟩
theorem one_nat (a : Int) : ∃ m : Nat, 1 + pick a 1048576 = (m : Int) ∧ 1 ≤ m ∧ m ≤ 1048576 := by
  have hpb := pick_bd a 1048576 (by omega)
  exact ⟨(1 + pick a 1048576).toNat, by omega, by omega, by omega⟩
theorem one_row (w : World) (b : Nat) (h : b = w.heap.size) (x : Nat) : SlI (w.alloc (.cells #[.int .i64 x] 3)) (some ⟨b, 0, none⟩) 1 (([x] : List Nat).map Int.ofNat) := by
  subst h
  exact own_slc (World.ownsRow_lit (base := 0) w #[.int .i64 x] 1 (Nat.zero_le _) (by decide) rfl)
theorem encL_one (k x : Nat) : encL k [x] 1 = codeL k x := by
  rw [encL_succ, encL_zero, List.nil_append]; rfl
/-- One number is encoded. -/
theorem genc_one (b k x : Nat) (w : World) (hb : b = w.heap.size) (hk : k = 1 ∨ k = 2) (h1 : 1 ≤ x) (h2 : x ≤ 1048576) (hl : (codeL k x).length ≤ 41) :
    Calls Try.prog 32 #[.int .i64 k, .slice (some ⟨b, 0, none⟩) 1 1] (w.alloc (.cells #[.int .i64 x] 3)) (BitsRet (w.alloc (.cells #[.int .i64 x] 3)) (codeL k x).length (bitsN (codeL k x) (codeL k x).length)) := by
  have := genc_any (some ⟨b, 0, none⟩) 1 1 k [x] (w.alloc (.cells #[.int .i64 x] 3)) (one_row w b hb x) rfl (by omega) hk (fun i hi => by
    obtain rfl : i = 0 := by omega
    exact ⟨h1, h2⟩) (by rw [encL_one]; omega)
  rwa [encL_one] at this
/-- At a place of the row of a list of bits. -/
theorem bat_list (B : Nat) (sa : Option Addr) (cap i : Nat) (E : List Bool) (w : World) (hO : w.ownsRow B 78 1 (.slice sa (bwN E.length) cap) (bwN E.length) (wds (wordsOf (bitsN E E.length) (bwN E.length)))) (hn : E.length ≤ 4096) (hi : i < E.length) :
    Calls Try.prog 33 #[.agg #[.int .i64 (E.length : Nat), .slice sa (bwN E.length) cap], .int .i64 i] w (fun e w' => e = .returned (.tuple #[.bool (bitB (bitsN E E.length) i), .int .i64 0]) ∧ Below w.heap.size w w') := by
  exact bat_ok B sa (bwN E.length) cap E.length i (bitsN E E.length) w rfl hO hn hi (bitsN_lt E _)

set_option maxRecDepth 100000 in
set_option maxHeartbeats 1000000 in
theorem walk_GamPrefix (a0 : Int) (a1 : Int) (a2 : Int) (w : World) (w0 : (Lit.int .i64 a0).wf = true) (w1 : (Lit.int .i64 a1).wf = true) (w2 : (Lit.int .i64 a2).wf = true) :
    Calls Try.prog 9 #[.int .i64 a0, .int .i64 a1, .int .i64 a2] w fun e w' => e = .returned (.bool true) ∧ Below w.heap.size w w' := by
  obtain ⟨b1, b2⟩ := wf_bd w0
  obtain ⟨b3, b4⟩ := wf_bd w1
  obtain ⟨b5, b6⟩ := wf_bd w2
  obtain ⟨k, hk, hk12⟩ := kind_nat a0
  obtain ⟨m, hm, hm1, hm2⟩ := one_nat a1
  obtain ⟨n, hn, hn1, hn2⟩ := one_nat a2
  have HK := Kp.mk hk
  have HK12 := Kp.mk hk12
  have HM := Kp.mk hm
  have HN := Kp.mk hn
  have p1 := pick_bd a1 1048576 (by omega)
  have p2 := pick_bd a2 1048576 (by omega)
  clear hk hk12 hm hn w0 w1 w2
  go_enter Try.func9, Try.ntmps9
  go_wp2_with fail
  refine (kind_any a0 _ b1 b2).mono ?_
  rintro e w' ⟨rfl, rfl⟩
  rw [HK.out]
  go_wp2_with fail
  refine (picked_any a1 1048576 _ (by omega) (by omega) b3 b4).mono ?_
  rintro e w' ⟨rfl, rfl⟩
  have q1 := HM.out
  generalize pick a1 1048576 = x1 at *
  go_wp2_with fail
  refine (picked_any a2 1048576 _ (by omega) (by omega) b5 b6).mono ?_
  rintro e w' ⟨rfl, rfl⟩
  have q2 := HN.out
  generalize pick a2 1048576 = x2 at *
  clear p1 p2
  have e1 : min (m : Int) (n : Int) = ((min m n : Nat) : Int) := by omega
  have e2 : max (m : Int) (n : Int) = ((max m n : Nat) : Int) := by omega
  obtain ⟨lo, hlo⟩ : ∃ lo, lo = min m n := ⟨_, rfl⟩
  obtain ⟨hi, hhi⟩ : ∃ hi, hi = max m n := ⟨_, rfl⟩
  rw [← hlo] at e1
  rw [← hhi] at e2
  have hl1 : 1 ≤ lo := by omega
  have hl2 : lo ≤ hi := by omega
  have hl3 : hi ≤ 1048576 := by omega
  have HEQ := Kp.mk (show lo = hi → m = n by omega)
  obtain ⟨z1, z2, z3⟩ := len_code k lo hi (by omega) hl2 hl3
  have HPF := Kp.mk (pf_code k lo hi (by omega) hl2 (by omega))
  clear hlo hhi
  go_wp2_with fail
  refine (genc_one _ k lo _ rfl HK12.out hl1 (by omega) (by omega)).mono ?_
  rintro e wa ⟨sx, cx, rfl, hox, hbx⟩
  have hba := below_step (below_alloc (Nat.le_refl _) _) hbx
  have HBA := Kp.mk hba
  have HOX := Kp.mk hox
  clear hba hox hbx
  go_wp2_with fail
  refine (genc_one _ k hi _ (by simp) HK12.out (by omega) hl3 z3).mono ?_
  rintro e wb ⟨sy, cy, rfl, hoy, hby⟩
  have h4 := ((Box.new wa #[Value.int IntKind.i64 ((codeL k lo).length : Nat), Value.slice sx (bwN (codeL k lo).length) cx] 49).alloc (Obj.cells #[Value.int IntKind.i64 (hi : Nat)] 3)).below hby
  have hab := below_step (below_then_alloc (below_alloc (Nat.le_refl wa.heap.size) _) _) hby
  have HOX2 := Kp.mk (own_below HOX.out hab)
  have HBB := Kp.mk (below_step HBA.out hab)
  have HOY := Kp.mk hoy
  clear hab hby hoy HOX HBA
  have hxl : Kp (((codeL k lo).length : Nat) ≤ 41) := ⟨by omega⟩
  have hxe : Kp (codeL k lo = codeL k lo) := ⟨rfl⟩
  generalize codeL k lo = X at *
  generalize codeL k hi = Y at *
  obtain ⟨W, hW⟩ : ∃ W, W = wb.alloc (Obj.cells #[Value.int IntKind.i64 (Y.length : Nat), Value.slice sy (bwN Y.length) cy] 49) := ⟨_, rfl⟩
  have hbW : Below wb.heap.size wb W := by rw [hW]; exact below_alloc (Nat.le_refl _) _
  have H4 := Kp.mk (h4.below hbW)
  have H5 := Kp.mk (show Box W wb.heap.size #[Value.int IntKind.i64 (Y.length : Nat), Value.slice sy (bwN Y.length) cy] 49 by rw [hW]; exact Box.new _ _ _)
  have HX := Kp.mk (own_below HOX2.out hbW)
  have HY := Kp.mk (own_below HOY.out hbW)
  have HW := Kp.mk (below_step HBB.out hbW)
  obtain ⟨⟨d0, d1⟩, -⟩ := box2 h4
  have hab9 : wa.heap.size < wb.heap.size := h4.lt
  have HW0 := Kp.mk hW
  clear h4 hbW HOX2 HOY HBB hxe hW
  have t1 : decide (X.length < 1) = false := decide_eq_false (by omega)
  have t2 : decide (Y.length < X.length) = false := decide_eq_false (by omega)
  go_wp2
  rw [← HW0.out]
  clear HW0 d0 d1 t1 t2 hab9
  go_loopw [14] (fun i wr => ∃ j : Nat, j ≤ X.length ∧ i = .int .i64 j ∧ Kp (∀ r, r < j → X[r]? = Y[r]?) ∧ Below W.heap.size W wr) (fun i _ => X.length - (intOf i).toNat)
  case atStart => exact ⟨0, Nat.zero_le _, rfl, ⟨fun r hr => by omega⟩, Below.refl _ _⟩
  case round =>
    obtain ⟨j, hj, rfl, HE, hbel⟩ := hrel
    have HBE := Kp.mk hbel
    obtain ⟨⟨d0, d1⟩, -⟩ := box2 (H4.out.below hbel)
    obtain ⟨⟨d2, d3⟩, -⟩ := box2 (H5.out.below hbel)
    clear hbel
    by_cases hlt : j < X.length
    · have C1 := Kp.mk (bat_list _ sx cx j X wr (own_below HX.out HBE.out) (by omega) hlt)
      go_wp2_with fail
      refine C1.out.mono ?_
      rintro e wc ⟨rfl, hbc⟩
      have HBC := Kp.mk (below_step HBE.out hbc)
      have C2 := Kp.mk (bat_list _ sy cy j Y wc (own_below HY.out HBC.out) (by omega) (by omega))
      obtain ⟨⟨d4, d5⟩, -⟩ := box2 (H5.out.below HBC.out)
      clear hbc C1 d2 d3
      go_wp2_with fail
      refine C2.out.mono ?_
      rintro e wd ⟨rfl, hbd⟩
      have HBD := Kp.mk (below_step HBC.out hbd)
      clear hbd C2 d4 d5
      by_cases hxy : bitB (bitsN X X.length) j = bitB (bitsN Y Y.length) j
      · have t1 : (bitB (bitsN X X.length) j == bitB (bitsN Y Y.length) j) = true := by rw [hxy]; simp
        have HXY := Kp.mk hxy
        clear hxy
        generalize hxb : bitB (bitsN X X.length) j = xb at *
        generalize hyb : bitB (bitsN Y Y.length) j = yb at *
        have HXB := Kp.mk hxb
        have HYB := Kp.mk hyb
        clear hxb hyb
        go_wp2
        go_roundw
        case rel =>
          refine ⟨j + 1, by omega, by go_num, ⟨fun r hr => ?_⟩, HBD.out⟩
          by_cases hrj : r = j
          · subst hrj
            have h1 := HXB.out
            have h2 := HYB.out
            rw [bitsN_at X _ r hlt, getD_at _ _ hlt] at h1
            rw [bitsN_at Y _ r (by omega), getD_at _ _ (show r < Y.length by omega)] at h2
            rw [List.getElem?_eq_getElem hlt, List.getElem?_eq_getElem (show r < Y.length by omega), h1, h2, HXY.out]
          · exact HE.out r (by omega)
        case measure => simp [intOf]; omega
      · have t1 : (bitB (bitsN X X.length) j == bitB (bitsN Y Y.length) j) = false := by simpa using hxy
        clear hxy
        generalize bitB (bitsN X X.length) j = xb at *
        generalize bitB (bitsN Y Y.length) j = yb at *
        go_wp2
        go_ret
        exact ⟨rfl, below_step HW.out HBD.out⟩
    · have hj2 : j = X.length := by omega
      have hlohi := HPF.out (fun i hi => HE.out i (by omega))
      have hmn := HEQ.out hlohi
      have t1 : ((m : Int) == n) = true := by rw [hmn]; simp
      clear hlohi hmn
      go_wp2
      go_ret
      exact ⟨rfl, below_step HW.out HBE.out⟩

end Go.Proofs.Ytjofajpcchncpaa

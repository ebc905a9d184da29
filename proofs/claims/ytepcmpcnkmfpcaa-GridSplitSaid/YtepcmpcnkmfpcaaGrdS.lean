/- GridSplit: the walk. -/
import Derived.Test.YtepcmpcnkmfpcaaGrdG
import Derived.Test.YtepcmpcnkmfpcaaRectOf
import Derived.Test.YtepcmpcnkmfpcaaFlatIn
namespace Go.Proofs.Ytepcmpcnkmfpcaa
set_option linter.unusedVariables false
open Go.RowKit

/-- Neither between X0 and X1 nor between Y0 and Y1. -/
def isOut (X0 Y0 X1 Y1 : Int) (p : Pt) : Bool := decide ((p.x < X0 ∨ X1 < p.x) ∧ (p.y < Y0 ∨ Y1 < p.y))
theorem split_law (L : List Pt) (X0 Y0 X1 Y1 m : Int) (h1 : X0 ≤ m) (h2 : m ≤ X1) : cntR L X0 Y0 X1 Y1 = cntR L X0 Y0 m Y1 + cntR L (m + 1) Y0 X1 Y1 := by
  unfold cntR
  induction L with
  | nil => rfl
  | cons p L ih =>
    simp only [List.countP_cons, inR, decide_eq_true_eq] at *
    split <;> split <;> split <;> omega
theorem all_law (L : List Pt) (h : ∀ p ∈ L, (0 ≤ p.x ∧ p.x < 20) ∧ (0 ≤ p.y ∧ p.y < 20)) : cntR L 0 0 19 19 = L.length := by
  unfold cntR
  rw [List.countP_eq_length]
  intro p hp
  have := h p hp
  unfold inR
  rw [decide_eq_true_eq]; omega
theorem out_law (L : List Pt) (X0 Y0 X1 Y1 : Int) (h : ∀ p ∈ L, (0 ≤ p.x ∧ p.x < 20) ∧ (0 ≤ p.y ∧ p.y < 20)) (h1 : X0 ≤ X1) (h2 : Y0 ≤ Y1) (h3 : 0 ≤ X0) (h4 : X1 < 20) (h5 : 0 ≤ Y0) (h6 : Y1 < 20) :
    cntR L X0 0 X1 19 + cntR L 0 Y0 19 Y1 + L.countP (isOut X0 Y0 X1 Y1) = L.length + cntR L X0 Y0 X1 Y1 := by
  unfold cntR
  induction L with
  | nil => rfl
  | cons p L ih =>
    have hp := h p (by simp)
    have ih' := ih (fun q hq => h q (by simp [hq]))
    simp only [List.countP_cons, inR, isOut, decide_eq_true_eq, List.length_cons] at *
    split <;> split <;> split <;> split <;> omega

theorem pts_at {w : World} {a : Option Addr} {n cap : Nat} {L : List Pt} (h : SlF ptL 3 w a n cap L) (i : Nat) (hi : i < n) :
    ∃ b off, a = some ⟨b, off, none⟩ ∧ w.cell? ⟨b, off + i * 3, none⟩ = some (.int .i64 (L.getD i pt0).x) ∧ w.cell? ⟨b, off + i * 3 + 1, none⟩ = some (.int .i64 (L.getD i pt0).y) ∧ w.cell? ⟨b, off + i * 3 + 2, none⟩ = some (.int .i64 (L.getD i pt0).w) := by
  have hl := h.len ptL_len (by omega)
  obtain ⟨b, off, ha, hb, hc⟩ := h.at ptL_len (by omega) i (by omega)
  rw [← getD_at L pt0 (by omega)] at hc
  exact ⟨b, off, ha, hc 0 (by omega), hc 1 (by omega), hc 2 (by omega)⟩
theorem out_cases (X0 Y0 X1 Y1 : Int) (p : Pt) : (isOut X0 Y0 X1 Y1 p = true ∧ (decide (p.x < X0) = true ∨ (decide (p.x < X0) = false ∧ decide (X1 < p.x) = true)) ∧ (decide (p.y < Y0) = true ∨ (decide (p.y < Y0) = false ∧ decide (Y1 < p.y) = true))) ∨
    (isOut X0 Y0 X1 Y1 p = false ∧ ((decide (p.x < X0) = false ∧ decide (X1 < p.x) = false) ∨ ((decide (p.x < X0) = true ∨ (decide (p.x < X0) = false ∧ decide (X1 < p.x) = true)) ∧ decide (p.y < Y0) = false ∧ decide (Y1 < p.y) = false))) := by
  have e : isOut X0 Y0 X1 Y1 p = ((decide (p.x < X0) || decide (X1 < p.x)) && (decide (p.y < Y0) || decide (Y1 < p.y))) := by
    unfold isOut
    rw [Bool.eq_iff_iff]; simp
  rw [e]
  cases decide (p.x < X0) <;> cases decide (X1 < p.x) <;> cases decide (p.y < Y0) <;> cases decide (Y1 < p.y) <;> simp
def outK (X0 Y0 X1 Y1 : Int) (L : List Pt) (k : Nat) : Nat := (L.take k).countP (isOut X0 Y0 X1 Y1)
theorem outK_succ (X0 Y0 X1 Y1 : Int) (L : List Pt) (k : Nat) (h : k < L.length) : outK X0 Y0 X1 Y1 L (k + 1) = outK X0 Y0 X1 Y1 L k + (if isOut X0 Y0 X1 Y1 (L.getD k pt0) = true then 1 else 0) := by
  unfold outK
  rw [List.take_succ_eq_append_getElem h, List.countP_append, getD_at L pt0 h]
  simp [List.countP_cons]
theorem outK_le (X0 Y0 X1 Y1 : Int) (L : List Pt) (k : Nat) : outK X0 Y0 X1 Y1 L k ≤ k := Nat.le_trans List.countP_le_length (by simp; omega)
theorem outK_zero (X0 Y0 X1 Y1 : Int) (L : List Pt) : outK X0 Y0 X1 Y1 L 0 = 0 := rfl
theorem outK_all (X0 Y0 X1 Y1 : Int) (L : List Pt) : outK X0 Y0 X1 Y1 L L.length = L.countP (isOut X0 Y0 X1 Y1) := by unfold outK; rw [List.take_length]
theorem cntR_le (L : List Pt) (X0 Y0 X1 Y1 : Int) : cntR L X0 Y0 X1 Y1 ≤ L.length := by unfold cntR; exact List.countP_le_length
attribute [irreducible] outK
attribute [local irreducible] cntR

set_option maxRecDepth 100000 in
set_option maxHeartbeats 8000000 in
theorem walk_GridSplit (a0 : Option Addr) (len0 cap0 : Nat) (z0 : List Int) (a1 a2 a3 a4 a5 : Int) (w : World) (w0 : IsFlat 3 w a0 len0 cap0 z0) (w1 : (Lit.int .i64 a1).wf = true) (w2 : (Lit.int .i64 a2).wf = true) (w3 : (Lit.int .i64 a3).wf = true) (w4 : (Lit.int .i64 a4).wf = true) (w5 : (Lit.int .i64 a5).wf = true) :
    Calls Try.prog 3 #[.slice a0 len0 cap0, .int .i64 a1, .int .i64 a2, .int .i64 a3, .int .i64 a4, .int .i64 a5] w fun e w' => e = .returned (.bool true) ∧ Below w.heap.size w w' := by
  obtain ⟨S, hS, wS, nS⟩ := spots_in w0
  obtain ⟨i1, i2⟩ := wf_bd w5
  have C1 := Kp.mk (points_any a0 cap0 len0 80 20 S w hS (by unfold maxLen at nS; omega) (by omega) (by omega) (by omega) wS)
  have CR := Kp.mk (fun W => rectOf_any a1 a2 a3 a4 20 W (by omega) (by omega) w1 w2 w3 w4)
  have HSL := Kp.mk (hS.len ptL_len (by omega))
  clear w0 hS wS w1 w2 w3 w4 w5
  go_enter Try.func3, Try.ntmps3
  go_wp2_with fail
  refine C1.out.mono ?_
  rintro e w1 ⟨sa, sc, n, rfl, HR, HO, hb1⟩
  have HB1 := Kp.mk hb1
  have hn80 : n ≤ 80 := by have := HR.out; rw [ptsOf_length] at this; omega
  have HBD := Kp.mk (ptsOf_bd S 80 20 (by omega))
  have HP1 := Kp.mk (show SlF ptL 3 w1 sa n sc (ptsOf S 80 20) from own_slc HO.out)
  generalize ptsOf S 80 20 = L at *
  clear hb1 C1 HO
  go_wp2_with fail
  refine (CR.out _).mono ?_
  rintro e w2 ⟨X0, Y0, X1, Y1, hx, hx1, hy, hy1, rfl, hb2⟩
  have HB2 := Kp.mk (below_step HB1.out hb2)
  have HP2 := Kp.mk (SlF.below HP1.out hb2)
  clear hb2 CR HP1 HB1
  have b14 := Box.new w2 #[.int .i64 X0, .int .i64 Y0, .int .i64 X1, .int .i64 Y1] 26
  have hbA : Below w2.heap.size w2 (w2.alloc (.cells #[.int .i64 X0, .int .i64 Y0, .int .i64 X1, .int .i64 Y1] 26)) := below_alloc (Nat.le_refl _) _
  have HB3 := Kp.mk (below_step HB2.out hbA)
  have HP3 := Kp.mk (SlF.below HP2.out hbA)
  have x0 : (w2.alloc (.cells #[.int .i64 X0, .int .i64 Y0, .int .i64 X1, .int .i64 Y1] 26)).cell? ⟨w2.heap.size, 0, none⟩ = some (.int .i64 X0) := b14.cell 0 rfl
  have x2 : (w2.alloc (.cells #[.int .i64 X0, .int .i64 Y0, .int .i64 X1, .int .i64 Y1] 26)).cell? ⟨w2.heap.size, 2, none⟩ = some (.int .i64 X1) := b14.cell 2 rfl
  obtain ⟨k, hk, hkl⟩ := pick_nat a5 ((X1 : Int) - X0 + 1) (by omega)
  have CP := Kp.mk (fun W => hk ▸ picked_any a5 ((X1 : Int) - X0 + 1) W (by omega) (by omega) i1 i2)
  have e1 : IntKind.i64.wrap ((X1 : Int) - X0) = (X1 : Int) - X0 := IntWalk.i64_in _ (by omega)
  have e2 : IntKind.i64.wrap ((X1 : Int) - X0 + 1) = (X1 : Int) - X0 + 1 := IntWalk.i64_in _ (by omega)
  have e3 : IntKind.i64.wrap ((X0 : Int) + k) = (X0 : Int) + k := IntWalk.i64_in _ (by omega)
  clear hk HP2 HB2 hbA
  go_wp2
  go_quiet ((go_at_call 14; exact q_same (CP.out _)))
  have b14' := b14.drewN nq
  have HB4 := Kp.mk (HB3.out.trans (drewN_below (w := w2.alloc (.cells #[.int .i64 X0, .int .i64 Y0, .int .i64 X1, .int .i64 Y1] 26)) nq))
  have HP4 := Kp.mk (SlF.below HP3.out (drewN_below nq))
  generalize hbk : w2.heap.size = bk at *
  generalize (w2.alloc (.cells #[.int .i64 X0, .int .i64 Y0, .int .i64 X1, .int .i64 Y1] 26)).drewN nq = W at *
  have y0 : W.cell? ⟨bk, 0, none⟩ = some (.int .i64 X0) := b14'.cell 0 rfl
  have y1 : W.cell? ⟨bk, 1, none⟩ = some (.int .i64 Y0) := b14'.cell 1 rfl
  have y2 : W.cell? ⟨bk, 2, none⟩ = some (.int .i64 X1) := b14'.cell 2 rfl
  have y3 : W.cell? ⟨bk, 3, none⟩ = some (.int .i64 Y1) := b14'.cell 3 rfl
  clear x0 x2 b14 e1 e2 CP HP3 HB3
  have em : IntKind.i64.wrap ((X0 : Int) + k + 1) = (X0 : Int) + k + 1 := IntWalk.i64_in _ (by omega)
  have HBXk := Kp.mk b14'
  clear b14' hbk
  obtain ⟨bl, hbl⟩ : ∃ bl, W.heap.size = bl := ⟨_, rfl⟩
  have hbel : Below W.heap.size W (W.alloc (.cells #[.int .i64 (X0 : Int), .int .i64 Y0, .int .i64 ((X0 : Int) + k), .int .i64 Y1] 26)) := below_alloc (Nat.le_refl _) _
  have hnew := Box.new W #[.int .i64 (X0 : Int), .int .i64 Y0, .int .i64 ((X0 : Int) + k), .int .i64 Y1] 26
  rw [hbl] at hnew
  have HB4 := Kp.mk (below_step HB4.out hbel)
  have HP4 := Kp.mk (SlF.below HP4.out hbel)
  have HBXk := Kp.mk (HBXk.out.below hbel)
  have HBXbl := Kp.mk hnew
  go_upto_region 6 with (fail)
  clear hbel hnew y0 y1 y2 y3
  generalize W.alloc (.cells #[.int .i64 (X0 : Int), .int .i64 Y0, .int .i64 ((X0 : Int) + k), .int .i64 Y1] 26) = W at *
  clear hbl
  have y0 : W.cell? ⟨bk, 0, none⟩ = some (.int .i64 X0) := HBXk.out.cell 0 rfl
  have y1 : W.cell? ⟨bk, 1, none⟩ = some (.int .i64 Y0) := HBXk.out.cell 1 rfl
  have y2 : W.cell? ⟨bk, 2, none⟩ = some (.int .i64 X1) := HBXk.out.cell 2 rfl
  have y3 : W.cell? ⟨bk, 3, none⟩ = some (.int .i64 Y1) := HBXk.out.cell 3 rfl
  obtain ⟨br, hbr⟩ : ∃ br, W.heap.size = br := ⟨_, rfl⟩
  have hbel : Below W.heap.size W (W.alloc (.cells #[.int .i64 ((X0 : Int) + k + 1), .int .i64 Y0, .int .i64 X1, .int .i64 Y1] 26)) := below_alloc (Nat.le_refl _) _
  have hnew := Box.new W #[.int .i64 ((X0 : Int) + k + 1), .int .i64 Y0, .int .i64 X1, .int .i64 Y1] 26
  rw [hbr] at hnew
  have HB4 := Kp.mk (below_step HB4.out hbel)
  have HP4 := Kp.mk (SlF.below HP4.out hbel)
  have HBXk := Kp.mk (HBXk.out.below hbel)
  have HBXbl := Kp.mk (HBXbl.out.below hbel)
  have HBXbr := Kp.mk hnew
  go_upto_region 8 with (fail)
  clear hbel hnew y0 y1 y2 y3
  generalize W.alloc (.cells #[.int .i64 ((X0 : Int) + k + 1), .int .i64 Y0, .int .i64 X1, .int .i64 Y1] 26) = W at *
  clear hbr
  have y0 : W.cell? ⟨bk, 0, none⟩ = some (.int .i64 X0) := HBXk.out.cell 0 rfl
  have y1 : W.cell? ⟨bk, 1, none⟩ = some (.int .i64 Y0) := HBXk.out.cell 1 rfl
  have y2 : W.cell? ⟨bk, 2, none⟩ = some (.int .i64 X1) := HBXk.out.cell 2 rfl
  have y3 : W.cell? ⟨bk, 3, none⟩ = some (.int .i64 Y1) := HBXk.out.cell 3 rfl
  obtain ⟨bf, hbf⟩ : ∃ bf, W.heap.size = bf := ⟨_, rfl⟩
  have hbel : Below W.heap.size W (W.alloc (.cells #[.int .i64 X0, .int .i64 0, .int .i64 X1, .int .i64 19] 26)) := below_alloc (Nat.le_refl _) _
  have hnew := Box.new W #[.int .i64 X0, .int .i64 0, .int .i64 X1, .int .i64 19] 26
  rw [hbf] at hnew
  have HB4 := Kp.mk (below_step HB4.out hbel)
  have HP4 := Kp.mk (SlF.below HP4.out hbel)
  have HBXk := Kp.mk (HBXk.out.below hbel)
  have HBXbl := Kp.mk (HBXbl.out.below hbel)
  have HBXbr := Kp.mk (HBXbr.out.below hbel)
  have HBXbf := Kp.mk hnew
  go_upto_region 11 with (fail)
  clear hbel hnew y0 y1 y2 y3
  generalize W.alloc (.cells #[.int .i64 X0, .int .i64 0, .int .i64 X1, .int .i64 19] 26) = W at *
  clear hbf
  have y0 : W.cell? ⟨bk, 0, none⟩ = some (.int .i64 X0) := HBXk.out.cell 0 rfl
  have y1 : W.cell? ⟨bk, 1, none⟩ = some (.int .i64 Y0) := HBXk.out.cell 1 rfl
  have y2 : W.cell? ⟨bk, 2, none⟩ = some (.int .i64 X1) := HBXk.out.cell 2 rfl
  have y3 : W.cell? ⟨bk, 3, none⟩ = some (.int .i64 Y1) := HBXk.out.cell 3 rfl
  obtain ⟨bt, hbt⟩ : ∃ bt, W.heap.size = bt := ⟨_, rfl⟩
  have hbel : Below W.heap.size W (W.alloc (.cells #[.int .i64 0, .int .i64 Y0, .int .i64 19, .int .i64 Y1] 26)) := below_alloc (Nat.le_refl _) _
  have hnew := Box.new W #[.int .i64 0, .int .i64 Y0, .int .i64 19, .int .i64 Y1] 26
  rw [hbt] at hnew
  have HB4 := Kp.mk (below_step HB4.out hbel)
  have HP4 := Kp.mk (SlF.below HP4.out hbel)
  have HBXk := Kp.mk (HBXk.out.below hbel)
  have HBXbl := Kp.mk (HBXbl.out.below hbel)
  have HBXbr := Kp.mk (HBXbr.out.below hbel)
  have HBXbf := Kp.mk (HBXbf.out.below hbel)
  have HBXbt := Kp.mk hnew
  go_upto_region 14 with (fail)
  clear hbel hnew y0 y1 y2 y3
  generalize W.alloc (.cells #[.int .i64 0, .int .i64 Y0, .int .i64 19, .int .i64 Y1] 26) = W at *
  clear hbt
  have y0 : W.cell? ⟨bk, 0, none⟩ = some (.int .i64 X0) := HBXk.out.cell 0 rfl
  have y1 : W.cell? ⟨bk, 1, none⟩ = some (.int .i64 Y0) := HBXk.out.cell 1 rfl
  have y2 : W.cell? ⟨bk, 2, none⟩ = some (.int .i64 X1) := HBXk.out.cell 2 rfl
  have y3 : W.cell? ⟨bk, 3, none⟩ = some (.int .i64 Y1) := HBXk.out.cell 3 rfl
  obtain ⟨ba, hba⟩ : ∃ ba, W.heap.size = ba := ⟨_, rfl⟩
  have hbel : Below W.heap.size W (W.alloc (.cells #[.int .i64 0, .int .i64 0, .int .i64 19, .int .i64 19] 26)) := below_alloc (Nat.le_refl _) _
  have hnew := Box.new W #[.int .i64 0, .int .i64 0, .int .i64 19, .int .i64 19] 26
  rw [hba] at hnew
  have HB4 := Kp.mk (below_step HB4.out hbel)
  have HP4 := Kp.mk (SlF.below HP4.out hbel)
  have HBXk := Kp.mk (HBXk.out.below hbel)
  have HBXbl := Kp.mk (HBXbl.out.below hbel)
  have HBXbr := Kp.mk (HBXbr.out.below hbel)
  have HBXbf := Kp.mk (HBXbf.out.below hbel)
  have HBXbt := Kp.mk (HBXbt.out.below hbel)
  have HBXba := Kp.mk hnew
  go_upto_region 15 with (fail)
  clear hbel hnew y0 y1 y2 y3
  generalize W.alloc (.cells #[.int .i64 0, .int .i64 0, .int .i64 19, .int .i64 19] 26) = W at *
  clear hba
  have y0 : W.cell? ⟨bk, 0, none⟩ = some (.int .i64 X0) := HBXk.out.cell 0 rfl
  have y1 : W.cell? ⟨bk, 1, none⟩ = some (.int .i64 Y0) := HBXk.out.cell 1 rfl
  have y2 : W.cell? ⟨bk, 2, none⟩ = some (.int .i64 X1) := HBXk.out.cell 2 rfl
  have y3 : W.cell? ⟨bk, 3, none⟩ = some (.int .i64 Y1) := HBXk.out.cell 3 rfl
  have HLN := Kp.mk (HP4.out.len ptL_len (by omega))
  have hsp := split_law L X0 Y0 X1 Y1 ((X0 : Int) + k) (by omega) (by omega)
  have hal := all_law L (fun p hp => ⟨(HBD.out p hp).1, (HBD.out p hp).2.1⟩)
  have hou := out_law L X0 Y0 X1 Y1 (fun p hp => ⟨(HBD.out p hp).1, (HBD.out p hp).2.1⟩) (by omega) (by omega) (by omega) (by omega) (by omega) (by omega)
  rw [← outK_all, HLN.out] at hou
  rw [HLN.out] at hal
  have HSP := Kp.mk hsp
  have HAL := Kp.mk hal
  have HOU := Kp.mk hou
  have HNR := Kp.mk (show ∀ p ∈ L, p.Near from fun p hp => by
    have := HBD.out p hp; unfold Pt.Near; omega)
  clear hsp hal hou em e3
  obtain ⟨wo, rfl⟩ : ∃ wo : World, wo = W := ⟨_, rfl⟩
  go_wp2
  go_loopw [21, 22] (fun c i wr => ∃ (j : Nat), j ≤ n ∧ i = .int .i64 j ∧ c = .int .i64 ((outK X0 Y0 X1 Y1 L j : Nat) : Int) ∧ Kp (Drew wo wr)) (fun _ i _ => n - (intOf i).toNat)
  case atStart => exact ⟨0, Nat.zero_le _, rfl, by rw [outK_zero]; rfl, ⟨Drew.refl _⟩⟩
  case round =>
    obtain ⟨j, hj, rfl, rfl, HD⟩ := hrel
    by_cases hlt : j < n
    · obtain ⟨pb, po, rfl, p0, p1, p2⟩ := pts_at (SlF.below HP4.out (HD.out.below _)) j hlt
      have HS := Kp.mk (outK_succ X0 Y0 X1 Y1 L j (by rw [HLN.out]; exact hlt))
      have HLE := outK_le X0 Y0 X1 Y1 L j
      generalize L.getD j pt0 = p at *
      obtain ⟨c, hc⟩ : ∃ c, c = outK X0 Y0 X1 Y1 L j := ⟨_, rfl⟩
      have HC := Kp.mk hc
      rw [← hc] at HLE ⊢
      clear hc
      have z0 := (HD.out.cell ⟨bk, 0, none⟩).trans y0
      have z1 := (HD.out.cell ⟨bk, 1, none⟩).trans y1
      have z2 := (HD.out.cell ⟨bk, 2, none⟩).trans y2
      have z3 := (HD.out.cell ⟨bk, 3, none⟩).trans y3
      have ec : IntKind.i64.wrap ((c : Int) + 1) = (c : Int) + 1 := IntWalk.i64_in _ (by omega)
      have hor := out_cases X0 Y0 X1 Y1 p
      rcases hor with ⟨HE, (t1 | ⟨t1, t2⟩), (t3 | ⟨t3, t4⟩)⟩ | ⟨HE, (⟨t1, t2⟩ | ⟨(t1 | ⟨t1, t2⟩), t3, t4⟩)⟩
      all_goals
        replace HE := Kp.mk HE
        go_wp2
        go_quiet (fail)
        have HD2 := Kp.mk (HD.out.more nq)
        go_wp2
        go_roundw
        case rel => exact ⟨j + 1, by omega, by go_num, by rw [HS.out, HE.out, ← HC.out]; simp, HD2⟩
        case measure => simp [intOf]; omega
    · obtain rfl : j = n := by omega
      have HBr := Kp.mk (show Below wo.heap.size wo wr from HD.out.below _)
      have HPr := Kp.mk (SlF.below HP4.out HBr.out)
      have Hk := Kp.mk (HBXk.out.below HBr.out)
      have Hl := Kp.mk (HBXbl.out.below HBr.out)
      have Hr := Kp.mk (HBXbr.out.below HBr.out)
      have Hf := Kp.mk (HBXbf.out.below HBr.out)
      have Ht := Kp.mk (HBXbt.out.below HBr.out)
      have Ha := Kp.mk (HBXba.out.below HBr.out)
      have HBw := Kp.mk (below_step HB4.out HBr.out)
      have z0 : wr.cell? ⟨bk, 0, none⟩ = some (.int .i64 X0) := Hk.out.cell 0 rfl
      have z1 : wr.cell? ⟨bk, 1, none⟩ = some (.int .i64 Y0) := Hk.out.cell 1 rfl
      have z2 : wr.cell? ⟨bk, 2, none⟩ = some (.int .i64 X1) := Hk.out.cell 2 rfl
      have z3 : wr.cell? ⟨bk, 3, none⟩ = some (.int .i64 Y1) := Hk.out.cell 3 rfl
      have CK := Kp.mk (counted_any sa sc j L X0 Y0 X1 Y1 wr HPr.out (by omega) HNR.out)
      generalize hnn : cntR L X0 Y0 X1 Y1 = nn at *
      have HNN := Kp.mk hnn
      clear hnn y0 y1 y2 y3 HBXk HBXbl HBXbr HBXbf HBXbt HBXba HP4 HB4 HBr
      go_wp2_with fail
      refine CK.out.mono ?_
      rintro e w5 ⟨rfl, hb5⟩
      have HPs := Kp.mk (SlF.below HPr.out hb5)
      have HBs := Kp.mk (below_step HBw.out hb5)
      have hl := Hl.out.below hb5
      have hr := Hr.out.below hb5
      have hf := Hf.out.below hb5
      have ht := Ht.out.below hb5
      have ha := Ha.out.below hb5
      clear hb5 CK z0 z1 z2 z3 HPr HBw Hk Hl Hr Hf Ht Ha
      have l0 := later_cell (show w5.cell? ⟨bl, 0, none⟩ = some (.int .i64 X0) from hl.cell 0 rfl)
      have l1 := later_cell (show w5.cell? ⟨bl, 1, none⟩ = some (.int .i64 Y0) from hl.cell 1 rfl)
      have l2 := later_cell (show w5.cell? ⟨bl, 2, none⟩ = some (.int .i64 ((X0 : Int) + k)) from hl.cell 2 rfl)
      have l3 := later_cell (show w5.cell? ⟨bl, 3, none⟩ = some (.int .i64 Y1) from hl.cell 3 rfl)
      have r0 := later_cell (show w5.cell? ⟨br, 0, none⟩ = some (.int .i64 ((X0 : Int) + k + 1)) from hr.cell 0 rfl)
      have r1 := later_cell (show w5.cell? ⟨br, 1, none⟩ = some (.int .i64 Y0) from hr.cell 1 rfl)
      have r2 := later_cell (show w5.cell? ⟨br, 2, none⟩ = some (.int .i64 X1) from hr.cell 2 rfl)
      have r3 := later_cell (show w5.cell? ⟨br, 3, none⟩ = some (.int .i64 Y1) from hr.cell 3 rfl)
      have f0 := later_cell (show w5.cell? ⟨bf, 0, none⟩ = some (.int .i64 X0) from hf.cell 0 rfl)
      have f1 := later_cell (show w5.cell? ⟨bf, 1, none⟩ = some (.int .i64 0) from hf.cell 1 rfl)
      have f2 := later_cell (show w5.cell? ⟨bf, 2, none⟩ = some (.int .i64 X1) from hf.cell 2 rfl)
      have f3 := later_cell (show w5.cell? ⟨bf, 3, none⟩ = some (.int .i64 19) from hf.cell 3 rfl)
      have t0 := later_cell (show w5.cell? ⟨bt, 0, none⟩ = some (.int .i64 0) from ht.cell 0 rfl)
      have t1 := later_cell (show w5.cell? ⟨bt, 1, none⟩ = some (.int .i64 Y0) from ht.cell 1 rfl)
      have t2 := later_cell (show w5.cell? ⟨bt, 2, none⟩ = some (.int .i64 19) from ht.cell 2 rfl)
      have t3 := later_cell (show w5.cell? ⟨bt, 3, none⟩ = some (.int .i64 Y1) from ht.cell 3 rfl)
      have a0' := later_cell (show w5.cell? ⟨ba, 0, none⟩ = some (.int .i64 0) from ha.cell 0 rfl)
      have a1' := later_cell (show w5.cell? ⟨ba, 1, none⟩ = some (.int .i64 0) from ha.cell 1 rfl)
      have a2' := later_cell (show w5.cell? ⟨ba, 2, none⟩ = some (.int .i64 19) from ha.cell 2 rfl)
      have a3' := later_cell (show w5.cell? ⟨ba, 3, none⟩ = some (.int .i64 19) from ha.cell 3 rfl)
      obtain ⟨u1, hu1⟩ : ∃ u, u = cntR L X0 Y0 ((X0 : Int) + k) Y1 := ⟨_, rfl⟩
      have Cu1 := Kp.mk (show ∀ x : Later w5, Calls Try.prog 15 #[.slice sa j sc, .agg #[.int .i64 X0, .int .i64 Y0, .int .i64 ((X0 : Int) + k), .int .i64 Y1]] x.val (fun e w' => e = .returned (.int .i64 (u1 : Nat)) ∧ Below x.val.heap.size x.val w') from fun x => by rw [hu1]; exact counted_any sa sc j L X0 Y0 ((X0 : Int) + k) Y1 x.val (SlF.below HPs.out x.le) (by omega) HNR.out)
      obtain ⟨u2, hu2⟩ : ∃ u, u = cntR L ((X0 : Int) + k + 1) Y0 X1 Y1 := ⟨_, rfl⟩
      have Cu2 := Kp.mk (show ∀ x : Later w5, Calls Try.prog 15 #[.slice sa j sc, .agg #[.int .i64 ((X0 : Int) + k + 1), .int .i64 Y0, .int .i64 X1, .int .i64 Y1]] x.val (fun e w' => e = .returned (.int .i64 (u2 : Nat)) ∧ Below x.val.heap.size x.val w') from fun x => by rw [hu2]; exact counted_any sa sc j L ((X0 : Int) + k + 1) Y0 X1 Y1 x.val (SlF.below HPs.out x.le) (by omega) HNR.out)
      obtain ⟨u3, hu3⟩ : ∃ u, u = cntR L X0 0 X1 19 := ⟨_, rfl⟩
      have Cu3 := Kp.mk (show ∀ x : Later w5, Calls Try.prog 15 #[.slice sa j sc, .agg #[.int .i64 X0, .int .i64 0, .int .i64 X1, .int .i64 19]] x.val (fun e w' => e = .returned (.int .i64 (u3 : Nat)) ∧ Below x.val.heap.size x.val w') from fun x => by rw [hu3]; exact counted_any sa sc j L X0 0 X1 19 x.val (SlF.below HPs.out x.le) (by omega) HNR.out)
      obtain ⟨u4, hu4⟩ : ∃ u, u = cntR L 0 Y0 19 Y1 := ⟨_, rfl⟩
      have Cu4 := Kp.mk (show ∀ x : Later w5, Calls Try.prog 15 #[.slice sa j sc, .agg #[.int .i64 0, .int .i64 Y0, .int .i64 19, .int .i64 Y1]] x.val (fun e w' => e = .returned (.int .i64 (u4 : Nat)) ∧ Below x.val.heap.size x.val w') from fun x => by rw [hu4]; exact counted_any sa sc j L 0 Y0 19 Y1 x.val (SlF.below HPs.out x.le) (by omega) HNR.out)
      obtain ⟨u5, hu5⟩ : ∃ u, u = cntR L 0 0 19 19 := ⟨_, rfl⟩
      have Cu5 := Kp.mk (show ∀ x : Later w5, Calls Try.prog 15 #[.slice sa j sc, .agg #[.int .i64 0, .int .i64 0, .int .i64 19, .int .i64 19]] x.val (fun e w' => e = .returned (.int .i64 (u5 : Nat)) ∧ Below x.val.heap.size x.val w') from fun x => by rw [hu5]; exact counted_any sa sc j L 0 0 19 19 x.val (SlF.below HPs.out x.le) (by omega) HNR.out)
      have CG := Kp.mk (fun (x : Later w5) => gridSure_any x.val)
      have q1 : nn = u1 + u2 := by rw [← HNN.out, hu1, hu2]; exact (HNN.out ▸ HSP.out)
      have q2 : u5 = j := by rw [hu5]; exact HAL.out
      have q3 : u3 + u4 + outK X0 Y0 X1 Y1 L j = j + nn := by rw [hu3, hu4]; exact HOU.out
      have q4 := outK_le X0 Y0 X1 Y1 L j
      generalize outK X0 Y0 X1 Y1 L j = oc at *
      have q6 : u1 ≤ 80 ∧ u2 ≤ 80 ∧ u3 ≤ 80 ∧ u4 ≤ 80 := by
        refine ⟨?_, ?_, ?_, ?_⟩
        · rw [hu1]; exact Nat.le_trans (cntR_le _ _ _ _ _) (by rw [HLN.out]; omega)
        · rw [hu2]; exact Nat.le_trans (cntR_le _ _ _ _ _) (by rw [HLN.out]; omega)
        · rw [hu3]; exact Nat.le_trans (cntR_le _ _ _ _ _) (by rw [HLN.out]; omega)
        · rw [hu4]; exact Nat.le_trans (cntR_le _ _ _ _ _) (by rw [HLN.out]; omega)
      obtain ⟨q7, q8, q9, q10⟩ := q6
      have e1 : IntKind.i64.wrap ((u1 : Int) + u2) = (u1 : Int) + u2 := IntWalk.i64_in _ (by omega)
      have e2 : IntKind.i64.wrap ((u3 : Int) + u4) = (u3 : Int) + u4 := IntWalk.i64_in _ (by omega)
      have e3 : IntKind.i64.wrap ((u3 : Int) + u4 - nn) = (u3 : Int) + u4 - nn := IntWalk.i64_in _ (by omega)
      have e4 : IntKind.i64.wrap ((j : Int) - oc) = (j : Int) - oc := IntWalk.i64_in _ (by omega)
      have v1 : (nn : Int) = (u1 : Int) + u2 := by omega
      have v2 : (u3 : Int) + u4 - nn = (j : Int) - oc := by omega
      have w1' : ((nn : Int) == (u1 : Int) + u2) = true := by rw [v1]; simp
      have w2' : ((u3 : Int) + u4 - nn == (j : Int) - oc) = true := by rw [v2]; simp
      have w3' : ((u5 : Int) == (j : Int)) = true := by rw [q2]; simp
      have w4' : decide ((0 : Int) ≤ nn) = true := decide_eq_true (by omega)
      clear hu1 hu2 hu3 hu4 hu5 q1 q2 q3 q4 q7 q8 q9 q10 v1 v2 HSP HAL HOU HNN hl hr hf ht ha HPs HNR
      go_wp2
      refine region_later (by kernel_rfl) (by kernel_rfl) ?_
      iterate 41 (go_big_quiet_step ((first | (go_at_call 16; exact q_later (CG.out _)) | (go_at_call 15; first | (with_reducible exact q_later (Cu1.out _)) | (with_reducible exact q_later (Cu2.out _)) | (with_reducible exact q_later (Cu3.out _)) | (with_reducible exact q_later (Cu4.out _)) | (with_reducible exact q_later (Cu5.out _))))))
      refine wpQuiet_nil ?_
      rintro w' ⟨xl, rfl⟩
      have HB7 := Kp.mk (below_step HBs.out xl.le)
      clear l0 l1 l2 l3 r0 r1 r2 r3 f0 f1 f2 f3 t0 t1 t2 t3 a0' a1' a2' a3' Cu1 Cu2 Cu3 Cu4 Cu5 CG
      go_wp2
      go_ret
      exact ⟨rfl, HB7.out⟩

end Go.Proofs.Ytepcmpcnkmfpcaa

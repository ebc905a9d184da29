/- The walk of SegSplit. -/
import Derived.Test.YtnieacfleabikaaSegZ
import Derived.Test.YtnieacfleabikaaStep
import Derived.Test.YtnieacfleabikaaNum
namespace Go.Proofs.Ytnieacfleabikaa
set_option linter.unusedVariables false
open Go.RowKit

theorem runD_front (l : List Int) (O L : List SOp) (k : Nat) (h : k ≤ O.length) : runD l (O ++ L) k = runD l O k := by
  induction k with
  | zero => unfold runD; rfl
  | succ k ih =>
    unfold runD
    rw [ih (by omega), getD_at _ _ (by simp; omega), getD_at _ _ (by omega), List.getElem_append_left (by omega)]
theorem runD_behind (l : List Int) (O L : List SOp) (j : Nat) (h : j ≤ L.length) : runD l (O ++ L) (O.length + j) = runD (runD l O O.length) L j := by
  induction j with
  | zero => rw [Nat.add_zero, runD_front _ _ _ _ (Nat.le_refl _)]; conv => rhs; unfold runD
  | succ j ih =>
    rw [Nat.add_succ]
    conv => lhs; unfold runD
    conv => rhs; unfold runD
    rw [ih (by omega), getD_at _ _ (by simp; omega), getD_at _ _ (by omega), List.getElem_append_right (by omega)]
    congr 2; omega
theorem runD_one (D : List Int) (o : SOp) : runD D [o] 1 = upd o 0 D := by unfold runD; unfold runD; rfl
theorem runD_two (D : List Int) (o p : SOp) : runD D [o, p] 2 = upd p 0 (upd o 0 D) := by unfold runD; unfold runD; unfold runD; rfl
/-- An operation on a range is one on its parts. -/
theorem upd_split (k lo mid hi : Nat) (y : Int) (h1 : lo ≤ mid) (h2 : mid < hi) (D : List Int) (i : Nat) : upd ⟨k, mid + 1, hi, y⟩ i (upd ⟨k, lo, mid, y⟩ i D) = upd ⟨k, lo, hi, y⟩ i D := by
  induction D generalizing i with
  | nil => rfl
  | cons x D ih =>
    simp only [upd, ih]
    congr 1
    by_cases e1 : lo ≤ i ∧ i ≤ mid
    · rw [inn_yes (o := ⟨k, lo, mid, y⟩) e1, inn_no (o := ⟨k, mid + 1, hi, y⟩) (by dsimp only; omega), inn_yes (o := ⟨k, lo, hi, y⟩) (by dsimp only; omega)]
      rfl
    · rw [inn_no (o := ⟨k, lo, mid, y⟩) e1]
      by_cases e2 : mid + 1 ≤ i ∧ i ≤ hi
      · rw [inn_yes (o := ⟨k, mid + 1, hi, y⟩) e2, inn_yes (o := ⟨k, lo, hi, y⟩) (by dsimp only; omega)]
        rfl
      · rw [inn_no (o := ⟨k, mid + 1, hi, y⟩) e2, inn_no (o := ⟨k, lo, hi, y⟩) (by dsimp only; omega)]
        rfl

set_option maxRecDepth 100000 in
set_option maxHeartbeats 2000000 in
theorem walk_SegSplit (a0 : Option Addr) (len0 cap0 : Nat) (z0 : List Int) (a1 : Option Addr) (len1 cap1 : Nat) (z1 : List Int) (x2_0 x2_1 x2_2 x2_3 : Int) (a3 : Int) (w : World) (w0 : IsRow .i64 w a0 len0 cap0 z0) (w1 : IsFlat 4 w a1 len1 cap1 z1) (w2 : ∀ n ∈ [x2_0, x2_1, x2_2, x2_3], (Lit.int .i64 n).wf = true) (w3 : (Lit.int .i64 a3).wf = true) :
    Calls Try.prog 12 #[.slice a0 len0 cap0, .slice a1 len1 cap1, .agg #[.int .i64 x2_0, .int .i64 x2_1, .int .i64 x2_2, .int .i64 x2_3], .int .i64 a3] w fun e w' => e = .returned (.bool true) ∧ Below w.heap.size w w' := by
  obtain ⟨l, rfl, hl, wl, nl⟩ := row_sl w0
  obtain ⟨L, hL, wL, nL⟩ := works_in w1
  obtain ⟨c1, c2⟩ := wf_bd w3
  have i0 := wf_bd (w2 x2_0 (by simp))
  obtain ⟨i1, i2⟩ := i0
  have WX := Kp.mk (show (⟨x2_0, x2_1, x2_2, x2_3⟩ : Wk).Wf from ⟨w2 x2_0 (by simp), w2 x2_1 (by simp), w2 x2_2 (by simp), w2 x2_3 (by simp)⟩)
  unfold maxLen at nl nL
  have HBX := Kp.mk (below_alloc (Nat.le_refl w.heap.size) (.cells #[.int .i64 x2_0, .int .i64 x2_1, .int .i64 x2_2, .int .i64 x2_3] 66))
  have HL := Kp.mk (hl.below HBX.out)
  have HWK := Kp.mk (hL.below HBX.out)
  have HX := Kp.mk (Box.new w #[.int .i64 x2_0, .int .i64 x2_1, .int .i64 x2_2, .int .i64 x2_3] 66)
  have WL := Kp.mk wl
  have WWK := Kp.mk wL
  obtain ⟨m, hm⟩ : ∃ m, m = (sgn l 60 500).length := ⟨_, rfl⟩
  have hm60 : m ≤ 60 := by rw [hm, sgn_length]; omega
  have hok := opOf_ok (m + 1) ⟨x2_0, x2_1, x2_2, x2_3⟩ (by omega)
  obtain ⟨O1, hO1⟩ : ∃ O1, opOf (m + 1) ⟨x2_0, x2_1, x2_2, x2_3⟩ = O1 := ⟨_, rfl⟩
  rw [hO1] at hok
  obtain ⟨k1, lo, hi, am⟩ := O1
  obtain ⟨_, k4, hlh, hin, y1, y2⟩ := hok
  dsimp only at hlh hin y1 y2 k4
  obtain ⟨q0, hq0, l0⟩ := pick_nat x2_0 2 (by omega)
  obtain ⟨q, hq, ql⟩ := pick_nat a3 ((hi : Int) - lo + 1) (by omega)
  obtain ⟨md, hmd⟩ : ∃ md, md = lo + q := ⟨_, rfl⟩
  have hmz : (lo : Int) + q = md := by omega
  have hlm : lo ≤ md := by omega
  have hmh : md ≤ hi := by omega
  have HO1 := Kp.mk hO1
  have HQ0 := Kp.mk hq0
  have HQ := Kp.mk hq
  have HMZ := Kp.mk hmz
  have HM := Kp.mk hm
  have HBD := Kp.mk (sgn_bd l 60 500 (by omega))
  clear w0 w1 w2 w3 hl wl hL wL hq0 hq hmd hmz hm hO1
  go_enter Try.func12, Try.ntmps12
  go_wp2_with fail
  obtain ⟨bx, hbx⟩ : ∃ bx, bx = w.heap.size := ⟨_, rfl⟩
  rw [← hbx] at HX ⊢
  have HBE := Kp.mk hbx
  clear hbx
  generalize w.alloc (.cells #[.int .i64 x2_0, .int .i64 x2_1, .int .i64 x2_2, .int .i64 x2_3] 66) = wx at *
  refine (signed_any a0 cap0 60 500 l wx HL.out (by omega) (by omega) (by omega) (by omega) WL.out).mono ?_
  rintro e w1 ⟨na, nc, rfl, hO, hb⟩
  unfold OwnI at hO
  rw [← HM.out] at hO ⊢
  have HO := Kp.mk hO
  have HB := Kp.mk hb
  have hsz := Kp.mk hb.size
  clear hO hb
  go_wp2_with (at_builtin; refine wpList_push tInts rfl _ _ rfl wx.heap.size na m nc _ rfl HO.out 1 1 _ rfl rfl ?d1 (by decide) ?d2 (by decide) hsz.out ?d4)
  case d1 => simp [Value.oneCell']
  case d2 => omega
  case d4 =>
    intro sa sc w2 hown hbel
    have hb2 := HB.out.trans hbel
    have HNL := Kp.mk (show (sgn l 60 500 ++ [3]).length = m + 1 by rw [List.length_append, ← HM.out]; rfl)
    have HN := Kp.mk (show SlI w2 sa sc (sgn l 60 500 ++ [3]) from own_sl_len (by rw [ints_append]; exact hown) HNL.out)
    have HBN := Kp.mk (show ∀ x ∈ sgn l 60 500 ++ [3], x.natAbs ≤ 1048576 from fun x hx => by
      rcases List.mem_append.1 hx with hx | hx
      · have := HBD.out x hx; omega
      · rw [List.mem_singleton.1 hx]; omega)
    have HX2 := Kp.mk (HX.out.below hb2)
    have HB2 := Kp.mk (HBX.out.trans (hb2.mono (by have := HBX.out.size; omega)))
    have HWK2 := Kp.mk (HWK.out.below hb2)
    clear hown hbel HO HM HBD hsz HB HBX HL HWK HX hb2
    generalize sgn l 60 500 ++ [3] = N at *
    go_wp2_with fail
    refine (ops_any a1 cap1 len1 40 (m + 1) L w2 HWK2.out (by omega) (by omega) (by omega) (by omega) WWK.out).mono ?_
    rintro e w3 ⟨oa, oc, r, rfl, HRL, HRO, hb3⟩
    have HOK := Kp.mk (opsOf_ok L 40 (m + 1) (by omega))
    have hr60 : r ≤ 40 := by rw [← HRL.out, opsOf_length]; omega
    have HB3 := Kp.mk (HB2.out.trans (hb3.mono HB2.out.size))
    have HN3 := Kp.mk (HN.out.below hb3)
    have HX3 := Kp.mk (HX2.out.below hb3)
    have HOS := Kp.mk (show SlF opL 4 w3 oa r oc (opsOf L 40 (m + 1)) from own_slc HRO.out)
    clear hb3 HRO HB2 HN HX2 HWK2
    generalize opsOf L 40 (m + 1) = O at *
    have k0 : w3.cell? ⟨bx, 0, none⟩ = some (.int .i64 x2_0) := HX3.out.cell 0 rfl
    have k1' : w3.cell? ⟨bx, 1, none⟩ = some (.int .i64 x2_1) := HX3.out.cell 1 rfl
    have k2 : w3.cell? ⟨bx, 2, none⟩ = some (.int .i64 x2_2) := HX3.out.cell 2 rfl
    have k3 : w3.cell? ⟨bx, 3, none⟩ = some (.int .i64 x2_3) := HX3.out.cell 3 rfl
    have hlit := World.ownsRow_lit (base := w3.heap.size) (size := 4) (e := 66) w3 #[.int .i64 x2_0, .int .i64 x2_1, .int .i64 x2_2, .int .i64 x2_3] 1 (Nat.le_refl _) (by decide) rfl
    have HLT := Kp.mk (show SlF wkL 4 _ _ 1 1 [⟨x2_0, x2_1, x2_2, x2_3⟩] from own_slc hlit)
    have HBA := Kp.mk (below_alloc (Nat.le_refl w3.heap.size) (.cells #[.int .i64 x2_0, .int .i64 x2_1, .int .i64 x2_2, .int .i64 x2_3] 66))
    clear hlit
    go_wp2_with fail
    refine (ops_any _ 1 1 1 (m + 1) _ _ HLT.out (by omega) (by omega) (by omega) (by omega) (fun x hx => by rw [List.mem_singleton.1 hx]; exact WX.out)).mono ?_
    rintro e w4 ⟨ta, tc, t, rfl, HTL, HTO, hb4⟩
    obtain rfl : t = 1 := by rw [← HTL.out, opsOf_length]; rfl
    obtain ⟨gt, rfl, _, _⟩ := own_some HTO.out (by omega)
    have HB34 := Kp.mk (below_step HBA.out hb4)
    have e1 : opsOf [⟨x2_0, x2_1, x2_2, x2_3⟩] 1 (m + 1) = [⟨k1, lo, hi, am⟩] := by unfold opsOf; simp [HO1.out]
    have j0 : w4.cell? ⟨gt, 0, none⟩ = some (.int .i64 k1) := by rw [HTO.out.cellAt 0 (by omega), e1]; rfl
    have j1 : w4.cell? ⟨gt, 1, none⟩ = some (.int .i64 lo) := by rw [HTO.out.cellAt 1 (by omega), e1]; rfl
    have j2 : w4.cell? ⟨gt, 2, none⟩ = some (.int .i64 hi) := by rw [HTO.out.cellAt 2 (by omega), e1]; rfl
    have j3 : w4.cell? ⟨gt, 3, none⟩ = some (.int .i64 am) := by rw [HTO.out.cellAt 3 (by omega), e1]; rfl
    have HX4 := Kp.mk (HX3.out.below HB34.out)
    have HN4 := Kp.mk (HN3.out.below HB34.out)
    have HO4 := Kp.mk (HOS.out.below HB34.out)
    have HB4 := Kp.mk (HB3.out.trans (HB34.out.mono HB3.out.size))
    clear e1 k0 k1' k2 k3 hb4 HTO HTL HLT HBA HB34 HN3 HX3 HOS HB3
    -- the operation in its box
    have v0 := HX4.out.alloc (.cells #[.int .i64 k1, .int .i64 lo, .int .i64 hi, .int .i64 am] 61)
    have v1 := Box.new w4 #[.int .i64 k1, .int .i64 lo, .int .i64 hi, .int .i64 am] 61
    have x0 : (w4.alloc (.cells #[.int .i64 k1, .int .i64 lo, .int .i64 hi, .int .i64 am] 61)).cell? ⟨bx, 0, none⟩ = some (.int .i64 x2_0) := v0.cell 0 rfl
    have u0 : (w4.alloc (.cells #[.int .i64 k1, .int .i64 lo, .int .i64 hi, .int .i64 am] 61)).cell? ⟨w4.heap.size, 0, none⟩ = some (.int .i64 k1) := v1.cell 0 rfl
    have uf := v1.free 0
    go_wp2_with fail
    refine (picked_any x2_0 2 _ (by omega) (by omega) i1 i2).mono ?_
    rintro e w' ⟨rfl, rfl⟩
    rw [HQ0.out]
    go_wp2
    have v2 : Box (w4.alloc (.cells #[.int .i64 (1 + q0), .int .i64 lo, .int .i64 hi, .int .i64 am] 61)) w4.heap.size #[.int .i64 (1 + q0), .int .i64 lo, .int .i64 hi, .int .i64 am] 61   := Box.new _ _ _
    have hb5 : Below w4.heap.size w4 (w4.alloc (.cells #[.int .i64 (1 + q0), .int .i64 lo, .int .i64 hi, .int .i64 am] 61)) := (Below.refl _ _).alloc (Nat.le_refl _) _
    obtain ⟨bo, hbo⟩ : ∃ bo, bo = w4.heap.size := ⟨_, rfl⟩
    have HN5 := Kp.mk (HN4.out.below hb5)
    have HO5 := Kp.mk (HO4.out.below hb5)
    have HB5 := Kp.mk (HB4.out.trans (hb5.mono HB4.out.size))
    rw [← hbo] at v2 ⊢
    clear x0 u0 uf v0 v1 j0 j1 j2 j3 HX4 HN4 HO4 hb5 HB4
    generalize w4.alloc (.cells #[.int .i64 (1 + q0), .int .i64 lo, .int .i64 hi, .int .i64 am] 61) = w5 at *
    clear hbo
    have u1 : w5.cell? ⟨bo, 1, none⟩ = some (.int .i64 lo) := v2.cell 1 rfl
    have u2 : w5.cell? ⟨bo, 2, none⟩ = some (.int .i64 hi) := v2.cell 2 rfl
    have e1 : IntKind.i64.wrap ((hi : Int) - lo) = (hi : Int) - lo := IntWalk.i64_in _ (by omega)
    have e2 : IntKind.i64.wrap ((hi : Int) - lo + 1) = (hi : Int) - lo + 1 := IntWalk.i64_in _ (by omega)
    have e3 : IntKind.i64.wrap ((lo : Int) + q) = (lo : Int) + q := IntWalk.i64_in _ (by omega)
    have CP := Kp.mk (fun W => HQ.out ▸ picked_any a3 ((hi : Int) - lo + 1) W (by omega) (by omega) c1 c2)
    go_quiet ((go_at_call 17; exact q_same (CP.out _)))
    rw [HMZ.out]
    have V2 := Kp.mk (show Box (w5.drewN nq) bo #[.int .i64 (1 + q0), .int .i64 lo, .int .i64 hi, .int .i64 am] 61 from v2)
    have HN6 := Kp.mk (show SlI (w5.drewN nq) sa sc N from HN5.out.below (drewN_below nq))
    have HO6 := Kp.mk (show SlF opL 4 (w5.drewN nq) oa r oc O from HO5.out.below (drewN_below nq))
    have HB6 := Kp.mk (show Below w.heap.size w (w5.drewN nq) from HB5.out.trans (drewN_below nq))
    clear u1 u2 e1 e2 e3 v2 HN5 HO5 HB5 CP
    generalize w5.drewN nq = w6 at *
    -- the first part in its box
    have u0 : w6.cell? ⟨bo, 0, none⟩ = some (.int .i64 (1 + q0)) := V2.out.cell 0 rfl
    have u1 : w6.cell? ⟨bo, 1, none⟩ = some (.int .i64 lo) := V2.out.cell 1 rfl
    have u2 : w6.cell? ⟨bo, 2, none⟩ = some (.int .i64 hi) := V2.out.cell 2 rfl
    have u3 : w6.cell? ⟨bo, 3, none⟩ = some (.int .i64 am) := V2.out.cell 3 rfl
    have p0 := Box.new w6 #[.int .i64 (1 + q0), .int .i64 lo, .int .i64 hi, .int .i64 am] 61
    have p1 : (w6.alloc (.cells #[.int .i64 (1 + q0), .int .i64 lo, .int .i64 hi, .int .i64 am] 61)).cell? ⟨w6.heap.size, 2, none⟩ = some (.int .i64 hi) := p0.cell 2 rfl
    have pf := p0.free 2
    go_wp2
    have hbp := below_alloc (Nat.le_refl w6.heap.size) (.cells #[.int .i64 (1 + q0), .int .i64 lo, .int .i64 md, .int .i64 am] 61)
    have PB := Kp.mk (Box.new w6 #[.int .i64 (1 + q0), .int .i64 lo, .int .i64 md, .int .i64 am] 61)
    have V7 := Kp.mk (V2.out.below hbp)
    have HN7 := Kp.mk (HN6.out.below hbp)
    have HO7 := Kp.mk (HO6.out.below hbp)
    have HB7 := Kp.mk (HB6.out.trans (hbp.mono HB6.out.size))
    obtain ⟨bp, hbpe⟩ : ∃ bp, bp = w6.heap.size := ⟨_, rfl⟩
    rw [← hbpe] at PB ⊢
    clear u0 u1 u2 u3 p0 p1 pf hbpe hbp V2 HN6 HO6 HB6
    generalize w6.alloc (.cells #[.int .i64 (1 + q0), .int .i64 lo, .int .i64 md, .int .i64 am] 61) = w7 at *
    have k0 : w7.cell? ⟨bp, 0, none⟩ = some (.int .i64 (1 + (q0 : Int))) := PB.out.cell 0 rfl
    have k1 : w7.cell? ⟨bp, 1, none⟩ = some (.int .i64 (lo : Int)) := PB.out.cell 1 rfl
    have k2 : w7.cell? ⟨bp, 2, none⟩ = some (.int .i64 (md : Int)) := PB.out.cell 2 rfl
    have k3 : w7.cell? ⟨bp, 3, none⟩ = some (.int .i64 am) := PB.out.cell 3 rfl
    have hSlA := Kp.mk (SlC.below HO7.out ((Below.refl w7.heap.size w7).drew))
    have hbC : Below w7.heap.size w7 (w7.alloc (.cells #[.int .i64 (1 + q0), .int .i64 lo, .int .i64 md, .int .i64 am] 61)).drew := (below_alloc (Nat.le_refl _) _).drew
    have hSlB := Kp.mk (SlC.below HO7.out hbC)
    have hblt : bp < w7.heap.size := PB.out.lt
    have HS := Kp.mk (fun (w' : World) (hb : Below w7.heap.size w7 w') => show w'.cell? ⟨bp, 0, none⟩ = some (.int .i64 (1 + (q0 : Int))) ∧ w'.cell? ⟨bp, 1, none⟩ = some (.int .i64 (lo : Int)) ∧ w'.cell? ⟨bp, 2, none⟩ = some (.int .i64 (md : Int)) ∧ w'.cell? ⟨bp, 3, none⟩ = some (.int .i64 am) from ⟨(hb.cell (p := ⟨bp, 0, none⟩) hblt).trans k0, (hb.cell (p := ⟨bp, 1, none⟩) hblt).trans k1, (hb.cell (p := ⟨bp, 2, none⟩) hblt).trans k2, (hb.cell (p := ⟨bp, 3, none⟩) hblt).trans k3⟩)
    go_region_held3 (fun w' => w'.cell? ⟨bp, 0, none⟩ = some (.int .i64 (1 + (q0 : Int))) ∧ w'.cell? ⟨bp, 1, none⟩ = some (.int .i64 (lo : Int)) ∧ w'.cell? ⟨bp, 2, none⟩ = some (.int .i64 (md : Int)) ∧ w'.cell? ⟨bp, 3, none⟩ = some (.int .i64 am))
      (first | exact ⟨k0, k1, k2, k3⟩ | exact HS.out _ hbC | exact hS2 | exact hS1 | exact HS.out _ (hb1.trans (below_alloc hb1.size _)))
      ((first
        | (refine step_push tOps (by rfl) _ _ (by rfl) w7.heap.size sa1 r sc1 _ (by rfl) (hown1.alloc _) 1 w1'.heap.size _ (heap_alloc_new w1' _) (by rfl) (by rfl) (by simp [Value.oneCell']) (by omega) (by omega) (by omega) (by have := hb1.size; rw [alloc_size]; omega) ?_; intro sa2 sc2 w2' hown2 hgr2 hno2; have hb2 : Below w7.heap.size w7 w2' := (hb1.trans (below_alloc hb1.size _)).trans (below_of_grown hgr2 (by have := hb1.size; rw [alloc_size]; omega) (fun k hk => (own_lt hown1 k hk).1)); have hS2 := HS.out w2' hb2)
        | (refine step_push tOps (by rfl) _ _ (by rfl) w7.heap.size sa1 r sc1 _ (by rfl) hown1 1 w7.heap.size _ hC1 (by rfl) (by rfl) (by simp [Value.oneCell']) (by omega) (by omega) (by omega) hb1.size ?_; intro sa2 sc2 w2' hown2 hgr2 hno2; have hb2 : Below w7.heap.size w7 w2' := hb1.trans (below_of_grown hgr2 hb1.size (fun k hk => (own_lt hown1 k hk).1)); have hS2 := HS.out w2' hb2)
        | (refine step_cat0 tOps (by rfl) _ _ (by rfl) w7.heap.size (by rfl) oa r oc _ (by rfl) hSlA.out (flat_one opL_one O) (by omega) (by decide) (Nat.le_refl _) ?_; intro sa1 sc1 w1' hown1 hgr1; have hb1 : Below w7.heap.size w7 w1' := ((Below.refl _ w7).drew).trans (below_of_grown hgr1 (Nat.le_refl _) (fun k hk => by cases hk)); have hS1 := HS.out w1' hb1)
        | (refine step_cat0 tOps (by rfl) _ _ (by rfl) w7.heap.size (by rfl) oa r oc _ (by rfl) hSlB.out (flat_one opL_one O) (by omega) (by decide) hbC.size ?_; intro sa1 sc1 w1' hown1 hgr1; have hb1 : Below w7.heap.size w7 w1' := hbC.trans (below_of_grown hgr1 hbC.size (fun k hk => by cases hk)); have hC1 : w1'.heap[w7.heap.size]? = some (.cells #[.int .i64 (1 + q0), .int .i64 lo, .int .i64 md, .int .i64 am] 61 (0, 0)) := (hgr1.block w7.heap.size (by show _ < (w7.alloc _).heap.size; rw [alloc_size]; omega) (by simp)).trans (heap_alloc_new w7 _); have hS1 := HS.out w1' hb1)))
    all_goals
      have EP := Kp.mk (show flat opL [(⟨1 + q0, lo, md, am⟩ : SOp)] = [.int .i64 (1 + (q0 : Int)), .int .i64 lo, .int .i64 md, .int .i64 am] from by simp [flat, opL])
      have EO := Kp.mk (show flat opL [(⟨1 + q0, lo, hi, am⟩ : SOp)] = [.int .i64 (1 + (q0 : Int)), .int .i64 lo, .int .i64 hi, .int .i64 am] from by simp [flat, opL])
      have EQ := Kp.mk (show flat opL [(⟨1 + q0, md + 1, hi, am⟩ : SOp)] = [.int .i64 (1 + (q0 : Int)), .int .i64 ((md : Int) + 1), .int .i64 hi, .int .i64 am] from by simp [flat, opL])
      have HPP := Kp.mk (show w2'.ownsRow w7.heap.size 61 4 (.slice sa2 (r + 1) sc2) (r + 1) (flat opL (O ++ [⟨1 + q0, lo, md, am⟩])) from by rw [flat_append, EP.out]; exact hown2)
      have hs8 : w7.heap.size ≤ w2'.heap.size := hb2.size
      have VQ := Kp.mk (V7.out.below hb2)
      have HNQ := Kp.mk (HN7.out.below hb2)
      have HOQ := Kp.mk (HO7.out.below hb2)
      have HBQ := Kp.mk (HB7.out.trans (hb2.mono HB7.out.size))
      have HKO := Kp.mk (fun (lo' hi' : Nat) (h1 : lo' ≤ hi') (h2 : hi' < m + 1) => show (⟨1 + q0, lo', hi', am⟩ : SOp).Ok (m + 1) from ⟨by dsimp only; omega, by dsimp only; omega, h1, h2, y1, y2⟩)
      have HOA := Kp.mk (show ∀ o ∈ O ++ [⟨1 + q0, lo, hi, am⟩], o.Ok (m + 1) from fun o ho => by
        rcases List.mem_append.1 ho with ho | ho
        · exact HOK.out o ho
        · rw [List.mem_singleton.1 ho]; exact HKO.out lo hi hlh hin)
      have HPK1 := Kp.mk (show ∀ o ∈ O ++ [⟨1 + q0, lo, md, am⟩], o.Ok (m + 1) from fun o ho => by
        rcases List.mem_append.1 ho with ho | ho
        · exact HOK.out o ho
        · rw [List.mem_singleton.1 ho]; exact HKO.out lo md hlm (by omega))
      have HDA := Kp.mk (show runD N (O ++ [⟨1 + q0, lo, hi, am⟩]) (r + 1) = upd ⟨1 + q0, lo, hi, am⟩ 0 (runD N O O.length) from by
        rw [← HRL.out, runD_behind N O _ 1 (by simp), runD_one])
      have HB72 := Kp.mk hb2
      clear hS2 hb2 hgr2 hno2 hown2 hS1 hb1 hgr1 hown1 HS hSlA hSlB hbC k0 k1 k2 k3 PB
      have u0 : w2'.cell? ⟨bo, 0, none⟩ = some (.int .i64 (1 + (q0 : Int))) := VQ.out.cell 0 rfl
      have u1 : w2'.cell? ⟨bo, 1, none⟩ = some (.int .i64 (lo : Int)) := VQ.out.cell 1 rfl
      have u2 : w2'.cell? ⟨bo, 2, none⟩ = some (.int .i64 (hi : Int)) := VQ.out.cell 2 rfl
      have u3 : w2'.cell? ⟨bo, 3, none⟩ = some (.int .i64 am) := VQ.out.cell 3 rfl
      by_cases hlt : md < hi
      · have hlti : (md : Int) < hi := by omega
        have q0' := Box.new w2' #[.int .i64 (1 + q0), .int .i64 lo, .int .i64 hi, .int .i64 am] 61
        have q1' : (w2'.alloc (.cells #[.int .i64 (1 + q0), .int .i64 lo, .int .i64 hi, .int .i64 am] 61)).cell? ⟨w2'.heap.size, 1, none⟩ = some (.int .i64 lo) := q0'.cell 1 rfl
        have qf := q0'.free 1
        go_upto_region 12 with (fail)
        have hbp := below_alloc (Nat.le_refl w2'.heap.size) (.cells #[.int .i64 (1 + q0), .int .i64 ((md : Int) + 1), .int .i64 hi, .int .i64 am] 61)
        have QB := Kp.mk (Box.new w2' #[.int .i64 (1 + q0), .int .i64 ((md : Int) + 1), .int .i64 hi, .int .i64 am] 61)
        have HPP' := Kp.mk (own_below HPP.out hbp)
        have HB79 := Kp.mk (HB72.out.trans (hbp.mono HB72.out.size))
        have hs9 : w7.heap.size ≤ (w2'.alloc (.cells #[.int .i64 (1 + q0), .int .i64 ((md : Int) + 1), .int .i64 hi, .int .i64 am] 61)).heap.size := by rw [alloc_size]; omega
        obtain ⟨bq, hbq⟩ : ∃ bq, bq = w2'.heap.size := ⟨_, rfl⟩
        rw [← hbq] at QB ⊢
        clear u0 u1 u2 u3 q0' q1' qf hbp VQ HNQ HOQ HPP HBQ hbq
        generalize w2'.alloc (.cells #[.int .i64 (1 + q0), .int .i64 ((md : Int) + 1), .int .i64 hi, .int .i64 am] 61) = w9 at *
        have k0 : w9.cell? ⟨bq, 0, none⟩ = some (.int .i64 (1 + (q0 : Int))) := QB.out.cell 0 rfl
        have k1 : w9.cell? ⟨bq, 1, none⟩ = some (.int .i64 ((md : Int) + 1)) := QB.out.cell 1 rfl
        have k2 : w9.cell? ⟨bq, 2, none⟩ = some (.int .i64 (hi : Int)) := QB.out.cell 2 rfl
        have k3 : w9.cell? ⟨bq, 3, none⟩ = some (.int .i64 am) := QB.out.cell 3 rfl
        go_wp2_with (at_builtin; refine wpList_pushS tOps rfl _ _ rfl w7.heap.size sa2 (r + 1) sc2 _ rfl HPP'.out 1 _ rfl rfl ?p1 ?p2 (by decide) hs9 ?p4)
        case p1 => simp [Value.oneCell']
        case p2 => omega
        case p4 =>
        intro pa pc w8 hown8 hg8 hno8
        have hb8 := below_of_grown hg8 hs9 (fun q hq => (own_lt HPP'.out q hq).1)
        have hb78 := HB79.out.trans hb8
        have VQ := Kp.mk (V7.out.below hb78)
        have HNQ := Kp.mk (HN7.out.below hb78)
        have HOQ := Kp.mk (HO7.out.below hb78)
        have HBQ := Kp.mk (HB7.out.trans (hb78.mono HB7.out.size))
        have HPQ := Kp.mk (show SlF opL 4 w8 pa (r + 2) pc (O ++ [⟨1 + q0, lo, md, am⟩, ⟨1 + q0, md + 1, hi, am⟩]) from by
          unfold SlF
          rw [show O ++ [⟨1 + q0, lo, md, am⟩, ⟨1 + q0, md + 1, hi, am⟩] = (O ++ [⟨1 + q0, lo, md, am⟩]) ++ [⟨1 + q0, md + 1, hi, am⟩] by simp, flat_append, EQ.out]
          exact own_slc hown8)
        have HPK := Kp.mk (show ∀ o ∈ O ++ [⟨1 + q0, lo, md, am⟩, ⟨1 + q0, md + 1, hi, am⟩], o.Ok (m + 1) from fun o ho => by
          rcases List.mem_append.1 ho with ho | ho
          · exact HOK.out o ho
          · simp only [List.mem_cons, List.not_mem_nil, or_false] at ho
            rcases ho with rfl | rfl
            · exact HKO.out lo md hlm (by omega)
            · exact HKO.out (md + 1) hi (by omega) hin)
        have HDP := Kp.mk (show runD N (O ++ [⟨1 + q0, lo, md, am⟩, ⟨1 + q0, md + 1, hi, am⟩]) (r + 2) = upd ⟨1 + q0, lo, hi, am⟩ 0 (runD N O O.length) from by
          rw [← HRL.out, runD_behind N O _ 2 (by simp), runD_two, upd_split _ _ _ _ _ hlm hlt])
        have hr2 : r + 1 + 1 = r + 2 := rfl
        clear k0 k1 k2 k3 hb8 hb78 hown8 hg8 hno8 HB79 HB72 V7 HN7 HO7 HB7 HPP' QB
        go_upto_region 13 with (fail)
        have m0 : w8.cell? ⟨bo, 0, none⟩ = some (.int .i64 (1 + (q0 : Int))) := VQ.out.cell 0 rfl
        have m1 : w8.cell? ⟨bo, 1, none⟩ = some (.int .i64 (lo : Int)) := VQ.out.cell 1 rfl
        have m2 : w8.cell? ⟨bo, 2, none⟩ = some (.int .i64 (hi : Int)) := VQ.out.cell 2 rfl
        have m3 : w8.cell? ⟨bo, 3, none⟩ = some (.int .i64 am) := VQ.out.cell 3 rfl
        have hSlC := Kp.mk (SlC.below HOQ.out ((Below.refl w8.heap.size w8).drew))
        have hbD : Below w8.heap.size w8 (w8.alloc (.cells #[.int .i64 (1 + q0), .int .i64 lo, .int .i64 hi, .int .i64 am] 61)).drew := (below_alloc (Nat.le_refl _) _).drew
        have hSlD := Kp.mk (SlC.below HOQ.out hbD)
        have hbolt : bo < w8.heap.size := VQ.out.lt
        have HSQ := Kp.mk (fun (w' : World) (hb : Below w8.heap.size w8 w') => show w'.cell? ⟨bo, 0, none⟩ = some (.int .i64 (1 + (q0 : Int))) ∧ w'.cell? ⟨bo, 1, none⟩ = some (.int .i64 (lo : Int)) ∧ w'.cell? ⟨bo, 2, none⟩ = some (.int .i64 (hi : Int)) ∧ w'.cell? ⟨bo, 3, none⟩ = some (.int .i64 am) from ⟨(hb.cell (p := ⟨bo, 0, none⟩) hbolt).trans m0, (hb.cell (p := ⟨bo, 1, none⟩) hbolt).trans m1, (hb.cell (p := ⟨bo, 2, none⟩) hbolt).trans m2, (hb.cell (p := ⟨bo, 3, none⟩) hbolt).trans m3⟩)
        go_region_held3 (fun w' => w'.cell? ⟨bo, 0, none⟩ = some (.int .i64 (1 + (q0 : Int))) ∧ w'.cell? ⟨bo, 1, none⟩ = some (.int .i64 (lo : Int)) ∧ w'.cell? ⟨bo, 2, none⟩ = some (.int .i64 (hi : Int)) ∧ w'.cell? ⟨bo, 3, none⟩ = some (.int .i64 am))
          (first | exact ⟨m0, m1, m2, m3⟩ | exact HSQ.out _ hbD | exact hS5 | exact hS4 | exact hS3 | exact HSQ.out _ (hb3.trans (below_alloc hb3.size _)))
          ((first
            | (go_at_call 30; refine (behind_any sa sa4 sc sc4 (m + 1) (r + 1) N (O ++ [⟨1 + q0, lo, hi, am⟩]) w4' (HNQ.out.below hb4) HNL.out HAA.out (by omega) (by omega) (by omega) HBN.out HOA.out).mono ?_; rintro e w5' ⟨ea, ec, xa, xc, rfl, HE, _, hb45⟩; have hb5 := hb4.trans (hb45.mono hb4.size); have hS5 := HSQ.out w5' hb5)
            | (refine step_push tOps (by rfl) _ _ (by rfl) w8.heap.size sa3 r sc3 _ (by rfl) (hown3.alloc _) 1 w3'.heap.size _ (heap_alloc_new w3' _) (by rfl) (by rfl) (by simp [Value.oneCell']) (by omega) (by omega) (by omega) (by have := hb3.size; rw [alloc_size]; omega) ?_; intro sa4 sc4 w4' hown4 hgr4 hno4; have hb4 : Below w8.heap.size w8 w4' := (hb3.trans (below_alloc hb3.size _)).trans (below_of_grown hgr4 (by have := hb3.size; rw [alloc_size]; omega) (fun k hk => (own_lt hown3 k hk).1)); have hS4 := HSQ.out w4' hb4; have HAA := Kp.mk (show SlF opL 4 w4' sa4 (r + 1) sc4 (O ++ [⟨1 + q0, lo, hi, am⟩]) from by unfold SlF; rw [flat_append, EO.out]; exact own_slc hown4))
            | (refine step_push tOps (by rfl) _ _ (by rfl) w8.heap.size sa3 r sc3 _ (by rfl) hown3 1 w8.heap.size _ hC3 (by rfl) (by rfl) (by simp [Value.oneCell']) (by omega) (by omega) (by omega) hb3.size ?_; intro sa4 sc4 w4' hown4 hgr4 hno4; have hb4 : Below w8.heap.size w8 w4' := hb3.trans (below_of_grown hgr4 hb3.size (fun k hk => (own_lt hown3 k hk).1)); have hS4 := HSQ.out w4' hb4; have HAA := Kp.mk (show SlF opL 4 w4' sa4 (r + 1) sc4 (O ++ [⟨1 + q0, lo, hi, am⟩]) from by unfold SlF; rw [flat_append, EO.out]; exact own_slc hown4))
            | (refine step_cat0 tOps (by rfl) _ _ (by rfl) w8.heap.size (by rfl) oa r oc _ (by rfl) hSlC.out (flat_one opL_one O) (by omega) (by decide) (Nat.le_refl _) ?_; intro sa3 sc3 w3' hown3 hgr3; have hb3 : Below w8.heap.size w8 w3' := ((Below.refl _ w8).drew).trans (below_of_grown hgr3 (Nat.le_refl _) (fun k hk => by cases hk)); have hS3 := HSQ.out w3' hb3)
            | (refine step_cat0 tOps (by rfl) _ _ (by rfl) w8.heap.size (by rfl) oa r oc _ (by rfl) hSlD.out (flat_one opL_one O) (by omega) (by decide) hbD.size ?_; intro sa3 sc3 w3' hown3 hgr3; have hb3 : Below w8.heap.size w8 w3' := hbD.trans (below_of_grown hgr3 hbD.size (fun k hk => by cases hk)); have hC3 : w3'.heap[w8.heap.size]? = some (.cells #[.int .i64 (1 + q0), .int .i64 lo, .int .i64 hi, .int .i64 am] 61 (0, 0)) := (hgr3.block w8.heap.size (by show _ < (w8.alloc _).heap.size; rw [alloc_size]; omega) (by simp)).trans (heap_alloc_new w8 _); have hS3 := HSQ.out w3' hb3)))
        all_goals
          have HEA := Kp.mk (own_sl_len HE.out (by rw [runD_length]; exact HNL.out))
          have HPA := Kp.mk (HPQ.out.below hb5)
          have HNA := Kp.mk (HNQ.out.below hb5)
          have HBA := Kp.mk (HBQ.out.trans (hb5.mono HBQ.out.size))
          have HEL := Kp.mk (show (runD N (O ++ [⟨1 + q0, lo, hi, am⟩]) (r + 1)).length = m + 1 from by rw [runD_length]; exact HNL.out)
          clear hS5 hb5 hb45 hS4 hS3 hb3 hb4 hgr3 hgr4 hown3 hown4 hno4 HE HSQ hSlC hSlD hbD HAA m0 m1 m2 m3
          go_wp2_with fail
          refine (behind_any sa pa sc pc (m + 1) (r + 2) N (O ++ [⟨1 + q0, lo, md, am⟩, ⟨1 + q0, md + 1, hi, am⟩]) w5' HNA.out HNL.out HPA.out (by omega) (by omega) (by omega) HBN.out HPK.out).mono ?_
          rintro e w6' ⟨fa, fc, ya, yc, rfl, HF, _, hb6⟩
          have HFA := Kp.mk (own_sl_len HF.out (by rw [runD_length]; exact HNL.out))
          have HEB := Kp.mk (HEA.out.below hb6)
          have HBB := Kp.mk (HBA.out.trans (hb6.mono HBA.out.size))
          clear hb6 HF
          go_wp2_with fail
          refine (sameInts_same ea fa ec fc (m + 1) _ _ w6' HEB.out HFA.out HEL.out (by rw [runD_length]; exact HNL.out) (HDA.out.trans HDP.out.symm) (by omega)).mono ?_
          rintro e w7' ⟨rfl, hb7⟩
          have HBC := Kp.mk (HBB.out.trans (hb7.mono HBB.out.size))
          clear hb7
          go_wp2
          go_ret
          exact ⟨rfl, HBC.out⟩
      · have hlti : ¬ ((md : Int) < hi) := by omega
        obtain rfl : md = hi := by omega
        clear HB72 V7 HN7 HO7 HB7
        have HPQ := Kp.mk (show SlF opL 4 w2' sa2 (r + 1) sc2 (O ++ [⟨1 + q0, lo, md, am⟩]) from own_slc HPP.out)
        have HPK := HPK1
        have HDP := HDA
        go_upto_region 13 with (fail)
        clear u0 u1 u2 u3
        have m0 : w2'.cell? ⟨bo, 0, none⟩ = some (.int .i64 (1 + (q0 : Int))) := VQ.out.cell 0 rfl
        have m1 : w2'.cell? ⟨bo, 1, none⟩ = some (.int .i64 (lo : Int)) := VQ.out.cell 1 rfl
        have m2 : w2'.cell? ⟨bo, 2, none⟩ = some (.int .i64 (md : Int)) := VQ.out.cell 2 rfl
        have m3 : w2'.cell? ⟨bo, 3, none⟩ = some (.int .i64 am) := VQ.out.cell 3 rfl
        have hSlC := Kp.mk (SlC.below HOQ.out ((Below.refl w2'.heap.size w2').drew))
        have hbD : Below w2'.heap.size w2' (w2'.alloc (.cells #[.int .i64 (1 + q0), .int .i64 lo, .int .i64 md, .int .i64 am] 61)).drew := (below_alloc (Nat.le_refl _) _).drew
        have hSlD := Kp.mk (SlC.below HOQ.out hbD)
        have hbolt : bo < w2'.heap.size := VQ.out.lt
        have HSQ := Kp.mk (fun (w' : World) (hb : Below w2'.heap.size w2' w') => show w'.cell? ⟨bo, 0, none⟩ = some (.int .i64 (1 + (q0 : Int))) ∧ w'.cell? ⟨bo, 1, none⟩ = some (.int .i64 (lo : Int)) ∧ w'.cell? ⟨bo, 2, none⟩ = some (.int .i64 (md : Int)) ∧ w'.cell? ⟨bo, 3, none⟩ = some (.int .i64 am) from ⟨(hb.cell (p := ⟨bo, 0, none⟩) hbolt).trans m0, (hb.cell (p := ⟨bo, 1, none⟩) hbolt).trans m1, (hb.cell (p := ⟨bo, 2, none⟩) hbolt).trans m2, (hb.cell (p := ⟨bo, 3, none⟩) hbolt).trans m3⟩)
        go_region_held3 (fun w' => w'.cell? ⟨bo, 0, none⟩ = some (.int .i64 (1 + (q0 : Int))) ∧ w'.cell? ⟨bo, 1, none⟩ = some (.int .i64 (lo : Int)) ∧ w'.cell? ⟨bo, 2, none⟩ = some (.int .i64 (md : Int)) ∧ w'.cell? ⟨bo, 3, none⟩ = some (.int .i64 am))
          (first | exact ⟨m0, m1, m2, m3⟩ | exact HSQ.out _ hbD | exact hS5 | exact hS4 | exact hS3 | exact HSQ.out _ (hb3.trans (below_alloc hb3.size _)))
          ((first
            | (go_at_call 30; refine (behind_any sa sa4 sc sc4 (m + 1) (r + 1) N (O ++ [⟨1 + q0, lo, md, am⟩]) w4' (HNQ.out.below hb4) HNL.out HAA.out (by omega) (by omega) (by omega) HBN.out HOA.out).mono ?_; rintro e w5' ⟨ea, ec, xa, xc, rfl, HE, _, hb45⟩; have hb5 := hb4.trans (hb45.mono hb4.size); have hS5 := HSQ.out w5' hb5)
            | (refine step_push tOps (by rfl) _ _ (by rfl) w2'.heap.size sa3 r sc3 _ (by rfl) (hown3.alloc _) 1 w3'.heap.size _ (heap_alloc_new w3' _) (by rfl) (by rfl) (by simp [Value.oneCell']) (by omega) (by omega) (by omega) (by have := hb3.size; rw [alloc_size]; omega) ?_; intro sa4 sc4 w4' hown4 hgr4 hno4; have hb4 : Below w2'.heap.size w2' w4' := (hb3.trans (below_alloc hb3.size _)).trans (below_of_grown hgr4 (by have := hb3.size; rw [alloc_size]; omega) (fun k hk => (own_lt hown3 k hk).1)); have hS4 := HSQ.out w4' hb4; have HAA := Kp.mk (show SlF opL 4 w4' sa4 (r + 1) sc4 (O ++ [⟨1 + q0, lo, md, am⟩]) from by unfold SlF; rw [flat_append, EO.out]; exact own_slc hown4))
            | (refine step_push tOps (by rfl) _ _ (by rfl) w2'.heap.size sa3 r sc3 _ (by rfl) hown3 1 w2'.heap.size _ hC3 (by rfl) (by rfl) (by simp [Value.oneCell']) (by omega) (by omega) (by omega) hb3.size ?_; intro sa4 sc4 w4' hown4 hgr4 hno4; have hb4 : Below w2'.heap.size w2' w4' := hb3.trans (below_of_grown hgr4 hb3.size (fun k hk => (own_lt hown3 k hk).1)); have hS4 := HSQ.out w4' hb4; have HAA := Kp.mk (show SlF opL 4 w4' sa4 (r + 1) sc4 (O ++ [⟨1 + q0, lo, md, am⟩]) from by unfold SlF; rw [flat_append, EO.out]; exact own_slc hown4))
            | (refine step_cat0 tOps (by rfl) _ _ (by rfl) w2'.heap.size (by rfl) oa r oc _ (by rfl) hSlC.out (flat_one opL_one O) (by omega) (by decide) (Nat.le_refl _) ?_; intro sa3 sc3 w3' hown3 hgr3; have hb3 : Below w2'.heap.size w2' w3' := ((Below.refl _ w2').drew).trans (below_of_grown hgr3 (Nat.le_refl _) (fun k hk => by cases hk)); have hS3 := HSQ.out w3' hb3)
            | (refine step_cat0 tOps (by rfl) _ _ (by rfl) w2'.heap.size (by rfl) oa r oc _ (by rfl) hSlD.out (flat_one opL_one O) (by omega) (by decide) hbD.size ?_; intro sa3 sc3 w3' hown3 hgr3; have hb3 : Below w2'.heap.size w2' w3' := hbD.trans (below_of_grown hgr3 hbD.size (fun k hk => by cases hk)); have hC3 : w3'.heap[w2'.heap.size]? = some (.cells #[.int .i64 (1 + q0), .int .i64 lo, .int .i64 md, .int .i64 am] 61 (0, 0)) := (hgr3.block w2'.heap.size (by show _ < (w2'.alloc _).heap.size; rw [alloc_size]; omega) (by simp)).trans (heap_alloc_new w2' _); have hS3 := HSQ.out w3' hb3)))
        all_goals
          have HEA := Kp.mk (own_sl_len HE.out (by rw [runD_length]; exact HNL.out))
          have HPA := Kp.mk (HPQ.out.below hb5)
          have HNA := Kp.mk (HNQ.out.below hb5)
          have HBA := Kp.mk (HBQ.out.trans (hb5.mono HBQ.out.size))
          have HEL := Kp.mk (show (runD N (O ++ [⟨1 + q0, lo, md, am⟩]) (r + 1)).length = m + 1 from by rw [runD_length]; exact HNL.out)
          clear hS5 hb5 hb45 hS4 hS3 hb3 hb4 hgr3 hgr4 hown3 hown4 hno4 HE HSQ hSlC hSlD hbD HAA m0 m1 m2 m3
          go_wp2_with fail
          refine (behind_any sa sa2 sc sc2 (m + 1) (r + 1) N (O ++ [⟨1 + q0, lo, md, am⟩]) w5' HNA.out HNL.out HPA.out (by omega) (by omega) (by omega) HBN.out HPK.out).mono ?_
          rintro e w6' ⟨fa, fc, ya, yc, rfl, HF, _, hb6⟩
          have HFA := Kp.mk (own_sl_len HF.out (by rw [runD_length]; exact HNL.out))
          have HEB := Kp.mk (HEA.out.below hb6)
          have HBB := Kp.mk (HBA.out.trans (hb6.mono HBA.out.size))
          clear hb6 HF
          go_wp2_with fail
          refine (sameInts_same ea fa ec fc (m + 1) _ _ w6' HEB.out HFA.out HEL.out (by rw [runD_length]; exact HNL.out) (HDA.out.trans HDP.out.symm) (by omega)).mono ?_
          rintro e w7' ⟨rfl, hb7⟩
          have HBC := Kp.mk (HBB.out.trans (hb7.mono HBB.out.size))
          clear hb7
          go_wp2
          go_ret
          exact ⟨rfl, HBC.out⟩

end Go.Proofs.Ytnieacfleabikaa

import Derived.Test.YtedchegejalolaaGreatDoorMb24
import Derived.Test.YtedchegejalolaaGreatDoorMb26
import Derived.StillTailTactics
/- Hulls: their areas, what they have; by Pick's law, in plain Lean. -/
namespace Go.Proofs.YtedchegejalolaaGreatDoor.Pick
set_option linter.unusedVariables false

def crn (D : List Pt) (i : Nat) : Pt := D.getD i pt0
/-- The sum over the edges. -/
def nxt (D : List Pt) (i : Nat) : Pt := D.getD ((i + 1) % D.length) pt0
def areaS (D : List Pt) : Nat → Int
  | 0 => 0
  | k + 1 => areaS D k + crossP (crn D k) (nxt D k)
end Go.Proofs.YtedchegejalolaaGreatDoor.Pick

/- Hulls: the first corner stands ahead of all. -/
namespace Go.Proofs.YtedchegejalolaaGreatDoor
set_option linter.unusedVariables false
open Go.RowKit

end Go.Proofs.YtedchegejalolaaGreatDoor

/- Hulls: the walks of edges and of Area. -/
namespace Go.Proofs.YtedchegejalolaaGreatDoor
set_option linter.unusedVariables false
open Go.RowKit
open Pick (crn nxt areaS crossP)

set_option maxRecDepth 100000 in
set_option maxHeartbeats 4000000 in
/-- The edges of a fence, one by one. -/
theorem edges_any (f : FuncId) (cb : Array Value) (eg : ∀ args w, (callFunc f args).run Tryz.prog w = .ok (.enter f args) w) (Inv : Nat → World → Prop) (a : Option Addr) (cap n : Nat) (L : List Pt) (la : Option Addr) (lc r : Nat) (C : List Nat) (w : World)
    (hr : C.length = r) (hrm : r ≤ 2000) (hlt : ∀ i, i < r → C.getD i 0 < n)
    (hB : ∀ k W, Inv k W → SlF ptL 3 W a n cap L ∧ SlI W la lc (C.map Int.ofNat)) (hd : ∀ k W q, Inv k W → Inv k (W.drewN q))
    (hs : ∀ k W, k < r → Inv k W → Calls Tryz.prog f (#[.agg #[.int .i64 (L.getD (C.getD k 0) pt0).x, .int .i64 (L.getD (C.getD k 0) pt0).y, .int .i64 (L.getD (C.getD k 0) pt0).w], .agg #[.int .i64 (L.getD (C.getD ((k + 1) % r) 0) pt0).x, .int .i64 (L.getD (C.getD ((k + 1) % r) 0) pt0).y, .int .i64 (L.getD (C.getD ((k + 1) % r) 0) pt0).w]] ++ cb) W fun e w' => e = .returned (.tuple #[]) ∧ Inv (k + 1) w')
    (h0 : Inv 0 w) :
    Calls Tryz.prog 85 #[.slice a n cap, .slice la r lc, .func (.func f) #[] cb] w fun e w' => e = .returned (.tuple #[]) ∧ Kp (Inv r w') := by
  have HR := Kp.mk hr
  have HLT := Kp.mk hlt
  have HBI := Kp.mk hB
  have HD := Kp.mk hd
  have HS := Kp.mk hs
  have H0 := Kp.mk h0
  clear hr hlt hB hd hs h0
  go_enter Tryz.func85, Tryz.ntmps85
  go_wp2
  go_loopw [10] (fun i wr => ∃ k : Nat, k ≤ r ∧ i = .int .i64 k ∧ Kp (Inv k wr)) (fun i _ => r - (intOf i).toNat)
  case atStart => exact ⟨0, Nat.zero_le _, rfl, H0⟩
  case round =>
    obtain ⟨k, hk, rfl, HI⟩ := hrel
    by_cases hlt : k < r
    · obtain ⟨hSF, hSI⟩ := HBI.out k wr HI.out
      have hm : (k + 1) % r < r := Nat.mod_lt _ (by omega)
      have q1 : ((k : Int) + 1).tmod r = (((k + 1) % r : Nat) : Int) := by
        rw [show (k : Int) + 1 = ((k + 1 : Nat) : Int) by omega]; exact (Int.ofNat_tmod _ _).symm
      have hr0f : ((r : Int) == 0) = false := by rw [beq_eq_false_iff_ne]; omega
      have HST := Kp.mk (fun W => HS.out k W hlt)
      have l1 := HLT.out k hlt
      have l2 := HLT.out _ hm
      obtain ⟨cb', co, rfl, c0⟩ := nat_cell hSI HR.out k hlt
      obtain ⟨_, _, e1, c1⟩ := nat_cell hSI HR.out ((k + 1) % r) hm
      simp only [Option.some.injEq, Addr.mk.injEq, and_true] at e1
      obtain ⟨rfl, rfl⟩ := e1
      obtain ⟨pb, po, rfl, x0, x1, x2⟩ := pt_cells hSF (C.getD k 0) l1
      obtain ⟨_, _, e1, y0, y1, y2⟩ := pt_cells hSF (C.getD ((k + 1) % r) 0) l2
      simp only [Option.some.injEq, Addr.mk.injEq, and_true] at e1
      obtain ⟨rfl, rfl⟩ := e1
      obtain ⟨k1, hk1⟩ : ∃ k1, (k + 1) % r = k1 := ⟨_, rfl⟩
      rw [hk1] at q1 hm l2 c1 y0 y1 y2 HST
      obtain ⟨i1, hi1⟩ : ∃ i, C.getD k 0 = i := ⟨_, rfl⟩
      obtain ⟨i2, hi2⟩ : ∃ i, C.getD k1 0 = i := ⟨_, rfl⟩
      rw [hi1] at l1 c0 x0 x1 x2 HST
      rw [hi2] at l2 c1 y0 y1 y2 HST
      obtain ⟨p1, hp1⟩ : ∃ p, L.getD i1 pt0 = p := ⟨_, rfl⟩
      obtain ⟨p2, hp2⟩ : ∃ p, L.getD i2 pt0 = p := ⟨_, rfl⟩
      rw [hp1] at x0 x1 x2 HST
      rw [hp2] at y0 y1 y2 HST
      have HE1 := Kp.mk hi1
      have HE2 := Kp.mk hi2
      have HE3 := Kp.mk hp1
      have HE4 := Kp.mk hp2
      clear hi1 hi2 hp1 hp2 hk1
      have HKS := Kp.mk (fun (W : World) (h : SlF ptL 3 W (some ⟨pb, po, none⟩) n cap L ∧ SlI W (some ⟨cb', co, none⟩) lc (C.map Int.ofNat)) => show W.cell? ⟨cb', co + k, none⟩ = some (.int .i64 (i1 : Int)) ∧ W.cell? ⟨cb', co + k1, none⟩ = some (.int .i64 (i2 : Int)) ∧
          (W.cell? ⟨pb, po + i1 * 3, none⟩ = some (.int .i64 p1.x) ∧ W.cell? ⟨pb, po + i1 * 3 + 1, none⟩ = some (.int .i64 p1.y) ∧ W.cell? ⟨pb, po + i1 * 3 + 2, none⟩ = some (.int .i64 p1.w)) ∧
          (W.cell? ⟨pb, po + i2 * 3, none⟩ = some (.int .i64 p2.x) ∧ W.cell? ⟨pb, po + i2 * 3 + 1, none⟩ = some (.int .i64 p2.y) ∧ W.cell? ⟨pb, po + i2 * 3 + 2, none⟩ = some (.int .i64 p2.w)) from by
        obtain ⟨_, _, g1, d0⟩ := nat_cell h.2 HR.out k hlt
        obtain ⟨_, _, g2, d1⟩ := nat_cell h.2 HR.out k1 hm
        obtain ⟨_, _, g3, d2, d3, d4⟩ := pt_cells h.1 i1 l1
        obtain ⟨_, _, g4, d5, d6, d7⟩ := pt_cells h.1 i2 l2
        simp only [Option.some.injEq, Addr.mk.injEq, and_true] at g1 g2 g3 g4
        obtain ⟨rfl, rfl⟩ := g1
        obtain ⟨rfl, rfl⟩ := g2
        obtain ⟨rfl, rfl⟩ := g3
        obtain ⟨rfl, rfl⟩ := g4
        rw [HE1.out] at d0
        rw [HE2.out] at d1
        rw [HE3.out] at d2 d3 d4
        rw [HE4.out] at d5 d6 d7
        exact ⟨d0, d1, ⟨d2, d3, d4⟩, ⟨d5, d6, d7⟩⟩)
      have hS0 := HKS.out wr ⟨hSF, hSI⟩
      have e5 : IntKind.i64.wrap ((k : Int) + 1) = (k : Int) + 1 := IntWalk.i64_in _ (by omega)
      have e6 : IntKind.i64.wrap ((k1 : Nat) : Int) = (k1 : Int) := IntWalk.i64_in _ (by omega)
      have e7 : (k1 : Int) < r := by omega
      have e8 : (0 : Int) ≤ k1 := by omega
      have hr0g : ¬ r = 0 := by omega
      have HID := Kp.mk (show Inv k wr.drew from HD.out k wr 1 HI.out)
      clear hSF hSI c0 c1 x0 x1 x2 y0 y1 y2
      go_wp2
      go_region_held3 (fun W => W.cell? ⟨cb', co + k, none⟩ = some (.int .i64 (i1 : Int)) ∧ W.cell? ⟨cb', co + k1, none⟩ = some (.int .i64 (i2 : Int)) ∧
          (W.cell? ⟨pb, po + i1 * 3, none⟩ = some (.int .i64 p1.x) ∧ W.cell? ⟨pb, po + i1 * 3 + 1, none⟩ = some (.int .i64 p1.y) ∧ W.cell? ⟨pb, po + i1 * 3 + 2, none⟩ = some (.int .i64 p1.w)) ∧
          (W.cell? ⟨pb, po + i2 * 3, none⟩ = some (.int .i64 p2.x) ∧ W.cell? ⟨pb, po + i2 * 3 + 1, none⟩ = some (.int .i64 p2.y) ∧ W.cell? ⟨pb, po + i2 * 3 + 2, none⟩ = some (.int .i64 p2.w)))
        (first | exact hS0 | exact hS1 | go_keep)
        ((go_at_fn f; refine (HST.out _ HID.out).mono ?_; rintro e w' ⟨rfl, hI⟩; have hS1 := HKS.out _ (HBI.out _ _ hI)))
      all_goals
        have HI2 := Kp.mk hI
        clear hI hS1
        go_wp2
        go_roundw
        case rel => exact ⟨k + 1, by omega, by go_num, HI2⟩
        case measure => simp [intOf]; omega
    · obtain rfl : k = r := by omega
      go_wp2
      go_end0
      exact ⟨rfl, HI⟩

theorem hbox_put {w : World} {b : Nat} {cs : Array Value} {t : TypeId} (h : Box w b cs t) (i : Nat) (v : Value) : Box (w.setCell ⟨b, i, none⟩ v) b (cs.setIfInBounds i v) t := heap_setCell_same w b i cs t v h
theorem cross_bd {p q : Pt} (hp : p.Near) (hq : q.Near) : (-4398046511104 ≤ p.x * q.y ∧ p.x * q.y ≤ 4398046511104) ∧ (-4398046511104 ≤ p.y * q.x ∧ p.y * q.x ≤ 4398046511104) ∧ crossP p q = p.x * q.y - p.y * q.x := by
  unfold Pt.Near at hp hq
  exact ⟨mul_in _ _ (by omega) (by omega), mul_in _ _ (by omega) (by omega), rfl⟩
theorem crn_near {D : List Pt} (h : ∀ i, i < D.length → (D.getD i pt0).Near) (k : Nat) (hk : k < D.length) : (crn D k).Near ∧ (nxt D k).Near := ⟨h k hk, h _ (Nat.mod_lt _ (by omega))⟩
theorem areaS_bd {D : List Pt} (h : ∀ i, i < D.length → (D.getD i pt0).Near) : ∀ k : Nat, k ≤ D.length → -(8796093022208 * (k : Int)) ≤ areaS D k ∧ areaS D k ≤ 8796093022208 * (k : Int)
  | 0, _ => by unfold areaS; omega
  | k + 1, hk => by
    have ih := areaS_bd h k (by omega)
    obtain ⟨n1, n2⟩ := crn_near h k (by omega)
    obtain ⟨b1, b2, b3⟩ := cross_bd n1 n2
    have e : areaS D (k + 1) = areaS D k + crossP (crn D k) (nxt D k) := rfl
    rw [e, b3]
    omega
theorem areaS_succ (D : List Pt) (k : Nat) : areaS D (k + 1) = areaS D k + crossP (crn D k) (nxt D k) := rfl
theorem areaS_zero (D : List Pt) : areaS D 0 = 0 := rfl

set_option maxRecDepth 100000 in
set_option maxHeartbeats 2000000 in
theorem area1_any (b : Nat) (v : Int) (p q : Pt) (w : World) (hb : Box w b #[.int .i64 v] 3) (hp : p.Near) (hq : q.Near) (hv : -4611686018427387904 ≤ v ∧ v ≤ 4611686018427387904) :
    Calls Tryz.prog 86 #[.agg #[.int .i64 p.x, .int .i64 p.y, .int .i64 p.w], .agg #[.int .i64 q.x, .int .i64 q.y, .int .i64 q.w], .pointer (some ⟨b, 0, none⟩)] w fun e w' => e = .returned (.tuple #[]) ∧ Box w' b #[.int .i64 (v + crossP p q)] 3 ∧ Below b w w' := by
  obtain ⟨m1, m2, m3⟩ := cross_bd hp hq
  rw [m3]
  obtain ⟨px, py, pw⟩ := p
  obtain ⟨qx, qy, qw⟩ := q
  dsimp only at *
  have HV := Kp.mk (show wrap64 (v + wrap64 (wrap64 (px * qy) - wrap64 (py * qx))) = v + (px * qy - py * qx) from by
    rw [IntWalk.wrap64_in (px * qy) (by omega), IntWalk.wrap64_in (py * qx) (by omega), IntWalk.wrap64_in (px * qy - py * qx) (by omega)]
    exact IntWalk.wrap64_in _ (by omega))
  have hbw := hb.lt
  have b1 := Box.new w #[.int .i64 px, .int .i64 py, .int .i64 pw] 78
  have b2 := Box.new (w.alloc (.cells #[.int .i64 px, .int .i64 py, .int .i64 pw] 78)) #[.int .i64 qx, .int .i64 qy, .int .i64 qw] 78
  rw [alloc_size] at b2
  have b3 := b1.alloc (.cells #[.int .i64 qx, .int .i64 qy, .int .i64 qw] 78)
  have b4 := (hb.alloc (.cells #[.int .i64 px, .int .i64 py, .int .i64 pw] 78)).alloc (.cells #[.int .i64 qx, .int .i64 qy, .int .i64 qw] 78)
  have c0 := b3.cell 0 rfl
  have c1 := b3.cell 1 rfl
  have c2 := b2.cell 0 rfl
  have c3 := b2.cell 1 rfl
  have c4 := b4.cell 0 rfl
  have f4 := frozen_of_row _ b 0 #[.int .i64 v] 3 b4
  have HX := Kp.mk (fun V => show Box (((w.setCell ⟨b, 0, none⟩ V).alloc (.cells #[.int .i64 px, .int .i64 py, .int .i64 pw] 78)).alloc (.cells #[.int .i64 qx, .int .i64 qy, .int .i64 qw] 78)) b #[V] 3 from ((hbox_put hb 0 V).alloc _).alloc _)
  have HBL := Kp.mk (fun V => show Below b w (((w.setCell ⟨b, 0, none⟩ V).alloc (.cells #[.int .i64 px, .int .i64 py, .int .i64 pw] 78)).alloc (.cells #[.int .i64 qx, .int .i64 qy, .int .i64 qw] 78)) from
    (((Below.refl b w).setCell (p := ⟨b, 0, none⟩) (Nat.le_refl _) V).trans (below_alloc (by rw [size_setCell]; omega) _)).trans (below_alloc (by rw [alloc_size, size_setCell]; omega) _))
  clear b1 b2 b3 b4 hb hp hq m1 m2 m3
  go_enter Tryz.func86, Tryz.ntmps86
  go_wp2
  go_end0
  rw [HV.out]
  exact ⟨rfl, HX.out _, HBL.out _⟩

attribute [local irreducible] areaS crossP
set_option maxRecDepth 100000 in
set_option maxHeartbeats 2000000 in
theorem harea_any (a : Option Addr) (cap n : Nat) (L : List Pt) (la : Option Addr) (lc r : Nat) (C : List Nat) (w : World) (h : SlF ptL 3 w a n cap L) (hC : SlI w la lc (C.map Int.ofNat)) (hr : C.length = r) (hrm : r ≤ 2000) (hlt : ∀ i, i < r → C.getD i 0 < n) (hN : ∀ i, i < r → (L.getD (C.getD i 0) pt0).Near) :
    Calls Tryz.prog 57 #[.slice a n cap, .slice la r lc] w fun e w' => e = .returned (.int .i64 (areaS (C.map (ptAt L)) r)) ∧ Below w.heap.size w w' := by
  have eg : ∀ args w, (callFunc 86 args).run Tryz.prog w = .ok (.enter 86 args) w := enters_of Tryz.func86 (by kernel_rfl) rfl
  have hA := below_alloc (Nat.le_refl w.heap.size) (.cells #[.int .i64 0] 3)
  have hX := Box.new w #[.int .i64 0] 3
  have hl : (C.map (ptAt L)).length = r := by rw [List.length_map]; exact hr
  have hNr : ∀ i, i < (C.map (ptAt L)).length → ((C.map (ptAt L)).getD i pt0).Near := fun i hi => by
    rw [hl] at hi
    rw [getD_pts L C i (by omega)]; exact hN i hi
  have CE := Kp.mk (edges_any 86 #[.pointer (some ⟨w.heap.size, 0, none⟩)] eg (fun k W => Box W w.heap.size #[.int .i64 (areaS (C.map (ptAt L)) k)] 3 ∧ Below w.heap.size w W) a cap n L la lc r C (w.alloc (.cells #[.int .i64 0] 3)) hr hrm hlt
    (fun k W hI => ⟨SlF.below h hI.2, SlI.below hC hI.2⟩) (fun k W q hI => ⟨hI.1.drewN q, below_drewN hI.2 q⟩)
    (fun k W hk hI => by
      have hbd := areaS_bd hNr k (by omega)
      have h1 := getD_pts L C k (by omega)
      have h2 := getD_pts L C ((k + 1) % r) (by rw [hr]; exact Nat.mod_lt _ (by omega))
      obtain ⟨n1, n2⟩ := crn_near hNr k (by omega)
      have hc1 : crn (C.map (ptAt L)) k = L.getD (C.getD k 0) pt0 := h1
      have hc2 : nxt (C.map (ptAt L)) k = L.getD (C.getD ((k + 1) % r) 0) pt0 := by unfold nxt; rw [hl]; exact h2
      have hk2 : (k : Int) ≤ 2000 := by omega
      refine (area1_any w.heap.size _ (crn (C.map (ptAt L)) k) (nxt (C.map (ptAt L)) k) W hI.1 n1 n2 (by omega)).mono ?_ |> fun hh => by rw [hc1, hc2] at hh; exact hh
      rintro e w' ⟨he, hx, hb⟩
      exact ⟨he, by rw [areaS_succ]; exact hx, hI.2.trans hb⟩)
    ⟨by rw [areaS_zero]; exact hX, hA⟩)
  clear h hC hr hlt hN hA hX hl hNr
  generalize C.map (ptAt L) = D at *
  go_enter Tryz.func57, Tryz.ntmps57
  go_wp2_with fail
  refine CE.out.mono ?_
  rintro e w2 ⟨rfl, HI⟩
  have c0 := HI.out.1.cell 0 rfl
  have HB := Kp.mk HI.out.2
  clear HI CE
  go_wp2
  go_ret
  exact ⟨rfl, HB.out⟩

set_option maxRecDepth 100000 in
set_option maxHeartbeats 2000000 in
theorem hArea_core (a : Option Addr) (cap m : Nat) (L : List Pt) (w : World) (h : SlF ptL 3 w a (m + 1) cap L) (hm : m + 1 ≤ 150) (hN : ∀ p ∈ L, p.Near) :
    Calls Tryz.prog 37 #[.slice a (m + 1) cap] w fun e w' => ∃ K C, e = .returned (.tuple #[.int .i64 (areaS (C.map (ptAt L)) (C.map (ptAt L)).length), .int .i64 0]) ∧ Kp (IsCorners L K C) ∧ C.length ≤ 2000 ∧ Kp (Below w.heap.size w w') := by
  have C1 := Kp.mk (hfault_any a cap m L w h hm hN)
  have H := Kp.mk h
  have HN := Kp.mk hN
  have HLL := Kp.mk (h.len ptL_len (by omega))
  clear h hN
  go_enter Tryz.func37, Tryz.ntmps37
  go_wp2_with fail
  refine C1.out.mono ?_
  rintro e w1 ⟨rfl, HB1⟩
  have C2 := Kp.mk (corners_any a cap m L w1 (SlF.below H.out HB1.out) (by omega) HN.out)
  clear C1
  go_wp2_with fail
  refine C2.out.mono ?_
  rintro e w2 ⟨ra, r, rc, K, C, rfl, HC, HR, hr, HS, HB2⟩
  have HB := Kp.mk (below_step HB1.out HB2.out)
  have HLT := Kp.mk (corners_lt HC.out)
  have C3 := Kp.mk (harea_any a cap (m + 1) L ra rc r C w2 (SlF.below H.out HB.out) HS.out HR.out hr (fun i hi => by rw [← HLL.out]; exact HLT.out i (by rw [HR.out]; exact hi)) (fun i hi => by
    have := HLT.out i (by rw [HR.out]; exact hi)
    exact HN.out _ (by rw [getD_at _ _ this]; exact List.getElem_mem _)))
  have HDL := Kp.mk (show (C.map (ptAt L)).length = r by rw [List.length_map]; exact HR.out)
  clear C2 HB1 HB2 HS HLT
  obtain ⟨D, hD⟩ : ∃ D, C.map (ptAt L) = D := ⟨_, rfl⟩
  rw [hD] at C3 HDL
  have HD := Kp.mk hD
  clear hD
  go_wp2_with fail
  refine C3.out.mono ?_
  rintro e w3 ⟨rfl, hb3⟩
  have HB3 := Kp.mk (below_step HB.out hb3)
  clear C3 hb3
  go_wp2
  go_ret2
  exact ⟨K, C, by rw [HD.out, HDL.out]; rfl, HC, by rw [HR.out]; exact hr, HB3⟩
end Go.Proofs.YtedchegejalolaaGreatDoor

/- desk: the area of a hull is a matter of the points. -/
namespace Go.Proofs.YtedchegejalolaaGreatDoor.Dk
set_option linter.unusedVariables false
open Go.RowKit
open Pick (crn nxt areaS crossP)

def xyf (g : Nat → Pt) (i : Nat) : Int × Int := ((g i).x, (g i).y)
theorem xyf_eq {g : Nat → Pt} {i j : Nat} (h : xyf g i = xyf g j) : (g i).x = (g j).x ∧ (g i).y = (g j).y := by
  unfold xyf at h
  exact ⟨congrArg Prod.fst h, congrArg Prod.snd h⟩
theorem turn_co {g : Nat → Pt} {a b c a' b' c' : Nat} (ha : xyf g a = xyf g a') (hb : xyf g b = xyf g b') (hc : xyf g c = xyf g c') : turnP (g a) (g b) (g c) = turnP (g a') (g b') (g c') := by
  obtain ⟨a1, a2⟩ := xyf_eq ha
  obtain ⟨b1, b2⟩ := xyf_eq hb
  obtain ⟨c1, c2⟩ := xyf_eq hc
  unfold turnP
  rw [a1, a2, b1, b2, c1, c2]
theorem popL_co (g : Nat → Pt) {c c' : Nat} (hc : xyf g c = xyf g c') : ∀ (S S' : List Nat), S.map (xyf g) = S'.map (xyf g) → (popL g c S).map (xyf g) = (popL g c' S').map (xyf g)
  | [], S', h => by
    have h2 : S' = [] := by simpa using h.symm
    subst h2
    rfl
  | [b], S', h => by
    match S', h with
    | [b'], h => simpa [popL] using h
    | [], h => simp at h
    | _ :: _ :: _, h => simp at h
  | b :: a :: r, S', h => by
    match S', h with
    | b' :: a' :: r', h =>
      simp only [List.map_cons, List.cons.injEq] at h
      obtain ⟨hb, ha, hr⟩ := h
      unfold popL
      rw [turn_co ha hb hc]
      by_cases ht : turnP (g a') (g b') (g c') ≤ 0
      · rw [if_pos ht, if_pos ht]
        exact popL_co g hc (a :: r) (a' :: r') (by simp [ha, hr])
      · rw [if_neg ht, if_neg ht]
        simp [ha, hb, hr]
    | [], h => simp at h
    | [_], h => simp at h
theorem sideS_co (g : Nat → Pt) : ∀ (l l' S S' : List Nat), l.map (xyf g) = l'.map (xyf g) → S.map (xyf g) = S'.map (xyf g) → (sideS g S l).map (xyf g) = (sideS g S' l').map (xyf g)
  | [], l', S, S', h, hS => by
    have h2 : l' = [] := by simpa using h.symm
    subst h2
    exact hS
  | c :: l, [], S, S', h, hS => by simp at h
  | c :: l, c' :: l', S, S', h, hS => by
    simp only [List.map_cons, List.cons.injEq] at h
    exact sideS_co g l l' (c :: popL g c S) (c' :: popL g c' S') h.2 (by rw [List.map_cons, List.map_cons, h.1, popL_co g h.1 S S' hS])
def lt2 (p q : Int × Int) : Prop := p.1 < q.1 ∨ (p.1 = q.1 ∧ p.2 < q.2)
theorem sorted_eq : ∀ (X Y : List (Int × Int)), X.Pairwise lt2 → Y.Pairwise lt2 → (∀ p, p ∈ X ↔ p ∈ Y) → X = Y
  | [], [], _, _, _ => rfl
  | [], y :: Y, _, _, h => absurd ((h y).2 (by simp)) (by simp)
  | x :: X, [], _, _, h => absurd ((h x).1 (by simp)) (by simp)
  | x :: X, y :: Y, hX, hY, h => by
    obtain ⟨x1, x2⟩ := List.pairwise_cons.1 hX
    obtain ⟨y1, y2⟩ := List.pairwise_cons.1 hY
    have e : x = y := by
      rcases List.mem_cons.1 ((h x).1 (by simp)) with e | e
      · exact e
      · rcases List.mem_cons.1 ((h y).2 (by simp)) with e' | e'
        · exact e'.symm
        · have a := y1 x e
          have b := x1 y e'
          unfold lt2 at a b; omega
    subst e
    rw [sorted_eq X Y x2 y2 (fun p => ⟨fun hp => by
      rcases List.mem_cons.1 ((h p).1 (List.mem_cons_of_mem _ hp)) with e | e
      · subst e; have := x1 p hp; unfold lt2 at this; omega
      · exact e, fun hp => by
      rcases List.mem_cons.1 ((h p).2 (List.mem_cons_of_mem _ hp)) with e | e
      · subst e; have := y1 p hp; unfold lt2 at this; omega
      · exact e⟩)]
theorem corners_co {L : List Pt} {K C K' C' : List Nat} (h : IsCorners L K C) (h' : IsCorners L K' C') : C.map (xyf (ptAt L)) = C'.map (xyf (ptAt L)) := by
  have hs : ∀ {K C : List Nat}, IsCorners L K C → (K.map (xyf (ptAt L))).Pairwise lt2 := fun h => by
    rw [List.pairwise_map]
    exact h.up.imp (fun {a b} e => e)
  have hm : ∀ {K C : List Nat}, IsCorners L K C → ∀ p, p ∈ K.map (xyf (ptAt L)) ↔ ∃ i, i < L.length ∧ xyf (ptAt L) i = p := fun h p => by
    rw [List.mem_map]
    constructor
    · rintro ⟨a, ha, rfl⟩; exact ⟨a, h.lt a ha, rfl⟩
    · rintro ⟨i, hi, rfl⟩
      obtain ⟨x, hx, e1, e2⟩ := h.all i hi
      exact ⟨x, hx, by unfold xyf; rw [e1, e2]⟩
  have hK := sorted_eq _ _ (hs h) (hs h') (fun p => (hm h p).trans (hm h' p).symm)
  have hl : K.length = K'.length := by
    have := congrArg List.length hK
    simpa using this
  by_cases h1 : K.length = 1
  · rw [h.one h1, h'.one (by omega), hK]
  · have hp := h.pos
    rw [h.two (by omega), h'.two (by omega)]
    simp only [List.map_append, List.map_dropLast, List.map_reverse]
    rw [sideS_co (ptAt L) K K' [] [] hK rfl, sideS_co (ptAt L) K.reverse K'.reverse [] [] (by rw [List.map_reverse, List.map_reverse, hK]) rfl]
theorem area_co {L : List Pt} {C C' : List Nat} (h : C.map (xyf (ptAt L)) = C'.map (xyf (ptAt L))) : areaS (C.map (ptAt L)) (C.map (ptAt L)).length = areaS (C'.map (ptAt L)) (C'.map (ptAt L)).length := by
  have hl : C.length = C'.length := by
    have := congrArg List.length h
    simpa using this
  have hg : ∀ i, ((C.map (ptAt L)).getD i pt0).x = ((C'.map (ptAt L)).getD i pt0).x ∧ ((C.map (ptAt L)).getD i pt0).y = ((C'.map (ptAt L)).getD i pt0).y := fun i => by
    by_cases hi : i < C.length
    · have e := congrArg (fun l => l[i]?) h
      simp only [List.getElem?_map] at e
      rw [List.getElem?_eq_getElem hi, List.getElem?_eq_getElem (by omega)] at e
      simp only [Option.map_some, Option.some.injEq] at e
      obtain ⟨e1, e2⟩ := xyf_eq e
      rw [getD_pts L C i hi, getD_pts L C' i (by omega), getD_at _ _ hi, getD_at _ _ (show i < C'.length by omega)]
      exact ⟨e1, e2⟩
    · have h1 : ∀ X : List Nat, X.length ≤ i → (X.map (ptAt L)).getD i pt0 = pt0 := fun X hX => by
        rw [List.getD_eq_getElem?_getD, List.getElem?_eq_none (by rw [List.length_map]; exact hX)]; rfl
      rw [h1 C (by omega), h1 C' (by omega)]
      exact ⟨rfl, rfl⟩
  have hk : ∀ k, areaS (C.map (ptAt L)) k = areaS (C'.map (ptAt L)) k := fun k => by
    induction k with
    | zero => rfl
    | succ k ih =>
      rw [areaS_succ, areaS_succ, ih]
      congr 1
      unfold crn nxt crossP
      rw [List.length_map, List.length_map, hl, (hg k).1, (hg k).2, (hg _).1, (hg _).2]
  rw [List.length_map, List.length_map, hl]
  exact hk _

/-- What the area of points is. -/
def AreaOf (L : List Pt) (v : Int) : Prop := ∃ K C, IsCorners L K C ∧ v = areaS (C.map (ptAt L)) (C.map (ptAt L)).length
theorem AreaOf.unique {L : List Pt} {v v' : Int} (h : AreaOf L v) (h' : AreaOf L v') : v = v' := by
  obtain ⟨K, C, hc, rfl⟩ := h
  obtain ⟨K', C', hc', rfl⟩ := h'
  exact area_co (corners_co hc hc')
noncomputable def areaF (L : List Pt) : Int := Classical.epsilon (AreaOf L)
theorem areaF_eq {L : List Pt} {v : Int} (h : AreaOf L v) : v = areaF L := h.unique (Classical.epsilon_spec ⟨v, h⟩)

end Go.Proofs.YtedchegejalolaaGreatDoor.Dk


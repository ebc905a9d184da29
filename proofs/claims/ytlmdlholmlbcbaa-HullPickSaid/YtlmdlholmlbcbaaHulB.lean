/- Hulls: the walk of Has. -/
import Derived.Test.YtlmdlholmlbcbaaHulA
namespace Go.Proofs.Ytlmdlholmlbcbaa
set_option linter.unusedVariables false
open Go.RowKit
open Pick (crn nxt betw InHull)

theorem hnear_any (x : Int) (w : World) (h1 : -1048576 ≤ x) (h2 : x ≤ 1048576) :
    Calls Try.prog 50 #[.int .i64 x] w fun e w' => e = .returned (.bool true) ∧ w = w' := by
  have h1' : decide (-1048576 ≤ x) = true := decide_eq_true h1
  have h2' : decide (x ≤ 1048576) = true := decide_eq_true h2
  go_enter Try.func50, Try.ntmps50
  go_wp2
  go_ret
  exact ⟨rfl, rfl⟩

/-- A call tells whether something holds. -/
structure TellsB (e : Ending) (P : Prop) : Prop where
  out : ∃ r : Bool, e = .returned (.bool r) ∧ (r = true ↔ P)
set_option maxRecDepth 100000 in
set_option maxHeartbeats 4000000 in
theorem between_any (a b p : Pt) (w : World) (ha : a.Near) (hb : b.Near) (hp : p.Near) :
    Calls Try.prog 52 #[.agg #[.int .i64 a.x, .int .i64 a.y, .int .i64 a.w], .agg #[.int .i64 b.x, .int .i64 b.y, .int .i64 b.w], .agg #[.int .i64 p.x, .int .i64 p.y, .int .i64 p.w]] w fun e w' => TellsB e (betw a b p) ∧ Below w.heap.size w w' := by
  have CT := Kp.mk (fun W => hturn_any a b p W ha hb hp)
  obtain ⟨T, hT⟩ : ∃ T, turnP a b p = T := ⟨_, rfl⟩
  have HBW := Kp.mk (show betw a b p ↔ (T = 0 ∧ min a.x b.x ≤ p.x ∧ p.x ≤ max a.x b.x ∧ min a.y b.y ≤ p.y ∧ p.y ≤ max a.y b.y) from by unfold betw; rw [hT])
  rw [hT] at CT
  clear hT ha hb hp
  generalize betw a b p = BW at *
  obtain ⟨ax, ay, aw⟩ := a
  obtain ⟨bx, by', bw⟩ := b
  obtain ⟨px, py, pw⟩ := p
  dsimp only at *
  have b1 := Box.new w #[.int .i64 ax, .int .i64 ay, .int .i64 aw] 41
  have b2 := Box.new (w.alloc (.cells #[.int .i64 ax, .int .i64 ay, .int .i64 aw] 41)) #[.int .i64 bx, .int .i64 by', .int .i64 bw] 41
  have b3 := Box.new ((w.alloc (.cells #[.int .i64 ax, .int .i64 ay, .int .i64 aw] 41)).alloc (.cells #[.int .i64 bx, .int .i64 by', .int .i64 bw] 41)) #[.int .i64 px, .int .i64 py, .int .i64 pw] 41
  rw [alloc_size] at b2
  rw [alloc_size, alloc_size] at b3
  have HX1 := Kp.mk ((b1.alloc (.cells #[.int .i64 bx, .int .i64 by', .int .i64 bw] 41)).alloc (.cells #[.int .i64 px, .int .i64 py, .int .i64 pw] 41))
  have HX2 := Kp.mk (b2.alloc (.cells #[.int .i64 px, .int .i64 py, .int .i64 pw] 41))
  have HX3 := Kp.mk b3
  have HB := Kp.mk (show Below w.heap.size w (((w.alloc (.cells #[.int .i64 ax, .int .i64 ay, .int .i64 aw] 41)).alloc (.cells #[.int .i64 bx, .int .i64 by', .int .i64 bw] 41)).alloc (.cells #[.int .i64 px, .int .i64 py, .int .i64 pw] 41)) from below_then_alloc (below_then_alloc (below_alloc (Nat.le_refl _) _) _) _)
  clear b1 b2 b3
  obtain ⟨mx, hmx⟩ : ∃ m, m = min ax bx := ⟨_, rfl⟩
  obtain ⟨Mx, hMx⟩ : ∃ m, m = max ax bx := ⟨_, rfl⟩
  obtain ⟨my, hmy⟩ : ∃ m, m = min ay by' := ⟨_, rfl⟩
  obtain ⟨My, hMy⟩ : ∃ m, m = max ay by' := ⟨_, rfl⟩
  have hm1 : min ax bx = mx := hmx.symm
  have hm2 : max ax bx = Mx := hMx.symm
  have hm3 : min ay by' = my := hmy.symm
  have hm4 : max ay by' = My := hMy.symm
  rw [← hmx, ← hMx, ← hmy, ← hMy] at HBW
  clear hmx hMx hmy hMy
  go_enter Try.func52, Try.ntmps52
  go_wp2_with fail
  refine (CT.out _).mono ?_
  rintro e w4 ⟨rfl, hb4⟩
  have HX1' := HX1.out.below hb4
  have HX2' := HX2.out.below hb4
  have HX3' := HX3.out.below hb4
  have HB4 := Kp.mk (below_step HB.out hb4)
  have c0 := HX1'.cell 0 rfl
  have c1 := HX1'.cell 1 rfl
  have c2 := HX2'.cell 0 rfl
  have c3 := HX2'.cell 1 rfl
  have c4 := HX3'.cell 0 rfl
  have c5 := HX3'.cell 1 rfl
  clear HX1 HX2 HX3 HX1' HX2' HX3' HB hb4 CT
  by_cases hT : T = 0
  · subst hT
    have t0 : ((0 : Int) == 0) = true := rfl
    by_cases hl : py ≤ My
    · have t5 : decide (py ≤ My) = true := decide_eq_true hl
      have HLY := Kp.mk hl
      go_wp2
      all_goals
        go_ret
        have hly := HLY.out
        refine ⟨⟨_, rfl, ?_⟩, HB4.out⟩
        first
          | exact ⟨fun h => (by cases h), fun h => (by have := HBW.out.1 h; omega)⟩
          | exact ⟨fun h => HBW.out.2 ⟨trivial, by omega, by omega, by omega, by omega⟩, fun h => rfl⟩
          | exact ⟨fun h => HBW.out.2 ⟨by omega, by omega, by omega, by omega⟩, fun h => rfl⟩
          | fail
    · have t5 : decide (py ≤ My) = false := decide_eq_false hl
      have HN := Kp.mk (show ¬ BW from fun h => by have := HBW.out.1 h; omega)
      clear hl
      go_wp2
      all_goals
        go_ret
        exact ⟨⟨_, rfl, ⟨fun h => (by cases h), fun h => absurd h HN.out⟩⟩, HB4.out⟩
  · have t0 : (T == 0) = false := by rw [beq_eq_false_iff_ne]; exact hT
    have HN := Kp.mk (show ¬ BW from fun h => hT (HBW.out.1 h).1)
    clear hT
    go_wp2
    go_ret
    exact ⟨⟨_, rfl, ⟨fun h => (by cases h), fun h => absurd h HN.out⟩⟩, HB4.out⟩

/-- What Has has found at the first k edges. -/
def hasK (D : List Pt) (z : Pt) : Nat → Bool
  | 0 => true
  | k + 1 => hasK D z k && decide (0 ≤ turnP (crn D k) (nxt D k) z)
theorem hasK_zero (D : List Pt) (z : Pt) : hasK D z 0 = true := rfl
theorem hasK_succ (D : List Pt) (z : Pt) (k : Nat) : hasK D z (k + 1) = (hasK D z k && decide (0 ≤ turnP (crn D k) (nxt D k) z)) := rfl
theorem hasK_iff (D : List Pt) (z : Pt) : ∀ k, hasK D z k = true ↔ ∀ i, i < k → 0 ≤ turnP (crn D i) (nxt D i) z
  | 0 => ⟨fun _ i hi => by omega, fun _ => rfl⟩
  | k + 1 => by
    rw [hasK_succ, Bool.and_eq_true, hasK_iff D z k, decide_eq_true_eq]
    constructor
    · rintro ⟨h1, h2⟩ i hi
      by_cases e : i = k
      · subst e; exact h2
      · exact h1 i (by omega)
    · intro h
      exact ⟨fun i hi => h i (by omega), h k (by omega)⟩
theorem hasK_all {D : List Pt} (z : Pt) (h3 : 3 ≤ D.length) : hasK D z D.length = true ↔ InHull D z := by
  rw [hasK_iff]
  unfold InHull
  rw [if_neg (by omega)]

set_option maxRecDepth 100000 in
set_option maxHeartbeats 2000000 in
theorem has1_any (b bp : Nat) (v : Bool) (p q z : Pt) (w : World) (hb : Box w b #[.bool v] 4) (hz : Box w bp #[.int .i64 z.x, .int .i64 z.y, .int .i64 z.w] 41) (hp : p.Near) (hq : q.Near) (hn : z.Near) (hbp : bp < b) :
    Calls Try.prog 54 #[.agg #[.int .i64 p.x, .int .i64 p.y, .int .i64 p.w], .agg #[.int .i64 q.x, .int .i64 q.y, .int .i64 q.w], .pointer (some ⟨b, 0, none⟩), .pointer (some ⟨bp, 0, none⟩)] w fun e w' => e = .returned (.tuple #[]) ∧ Box w' b #[.bool (v && decide (0 ≤ turnP p q z))] 4 ∧ Below b w w' := by
  have CT := Kp.mk (fun W => hturn_any p q z W hp hq hn)
  obtain ⟨px, py, pw⟩ := p
  obtain ⟨qx, qy, qw⟩ := q
  obtain ⟨zx, zy, zw⟩ := z
  dsimp only at hz CT ⊢
  have hbw := hb.lt
  have HB0 := Kp.mk hb
  have b1 := Box.new w #[.int .i64 px, .int .i64 py, .int .i64 pw] 41
  have b2 := Box.new (w.alloc (.cells #[.int .i64 px, .int .i64 py, .int .i64 pw] 41)) #[.int .i64 qx, .int .i64 qy, .int .i64 qw] 41
  rw [alloc_size] at b2
  have b3 := b1.alloc (.cells #[.int .i64 qx, .int .i64 qy, .int .i64 qw] 41)
  have b4 := (hb.alloc (.cells #[.int .i64 px, .int .i64 py, .int .i64 pw] 41)).alloc (.cells #[.int .i64 qx, .int .i64 qy, .int .i64 qw] 41)
  have b5 := (hz.alloc (.cells #[.int .i64 px, .int .i64 py, .int .i64 pw] 41)).alloc (.cells #[.int .i64 qx, .int .i64 qy, .int .i64 qw] 41)
  have c0 := b3.cell 0 rfl
  have c1 := b3.cell 1 rfl
  have c1' := b3.cell 2 rfl
  have c2 := b2.cell 0 rfl
  have c3 := b2.cell 1 rfl
  have c3' := b2.cell 2 rfl
  have c4 := b4.cell 0 rfl
  have c5 := b5.cell 0 rfl
  have c6 := b5.cell 1 rfl
  have c7 := b5.cell 2 rfl
  have f4 := frozen_of_row _ b 0 #[.bool v] 4 b4
  have HXB := Kp.mk b4
  have HBW := Kp.mk (show Below b w ((w.alloc (.cells #[.int .i64 px, .int .i64 py, .int .i64 pw] 41)).alloc (.cells #[.int .i64 qx, .int .i64 qy, .int .i64 qw] 41)) from (below_alloc (Nat.le_of_lt hbw) _).trans (below_alloc (by rw [alloc_size]; omega) _))
  clear b1 b2 b3 b4 b5 hp hq hn hb hz
  cases v with
  | false =>
    have HX := Kp.mk (fun V => show Box (((w.setCell ⟨b, 0, none⟩ V).alloc (.cells #[.int .i64 px, .int .i64 py, .int .i64 pw] 41)).alloc (.cells #[.int .i64 qx, .int .i64 qy, .int .i64 qw] 41)) b #[V] 4 from ((box_put HB0.out 0 V).alloc _).alloc _)
    have HBL := Kp.mk (fun V => show Below b w (((w.setCell ⟨b, 0, none⟩ V).alloc (.cells #[.int .i64 px, .int .i64 py, .int .i64 pw] 41)).alloc (.cells #[.int .i64 qx, .int .i64 qy, .int .i64 qw] 41)) from
      (((Below.refl b w).setCell (p := ⟨b, 0, none⟩) (Nat.le_refl _) V).trans (below_alloc (by rw [size_setCell]; omega) _)).trans (below_alloc (by rw [alloc_size, size_setCell]; omega) _))
    go_enter Try.func54, Try.ntmps54
    go_wp2
    go_end0
    exact ⟨rfl, HX.out _, HBL.out _⟩
  | true =>
    go_enter Try.func54, Try.ntmps54
    go_wp2_with fail
    refine (CT.out _).mono ?_
    rintro e w4 ⟨rfl, hb4⟩
    have HX4 := Kp.mk (HXB.out.below hb4)
    have HB4 := Kp.mk (HBW.out.trans (hb4.mono (Nat.le_trans (Nat.le_of_lt hbw) HBW.out.size)))
    have d0 := HX4.out.cell 0 rfl
    have d1 := frozen_of_row _ b 0 #[.bool true] 4 HX4.out
    clear hb4 HXB HBW c0 c1 c1' c2 c3 c3' c4 c5 c6 c7 f4 CT
    go_wp2
    go_end0
    exact ⟨rfl, by simpa using box_put HX4.out 0 _, HB4.out.setCell (p := ⟨b, 0, none⟩) (Nat.le_refl _) _⟩

set_option maxRecDepth 100000 in
set_option maxHeartbeats 4000000 in
theorem hHas_any (a : Option Addr) (cap m : Nat) (L : List Pt) (x y : Int) (w : World) (h : SlF ptL 3 w a (m + 1) cap L) (hm : m + 1 ≤ 150) (hN : ∀ p ∈ L, p.Near) (hx : -1048576 ≤ x ∧ x ≤ 1048576) (hy : -1048576 ≤ y ∧ y ≤ 1048576) :
    Calls Try.prog 24 #[.slice a (m + 1) cap, .int .i64 x, .int .i64 y] w fun e w' => ∃ D, Kp (Pick.HullL L D) ∧ Below w.heap.size w w' ∧ ((e = .returned (.tuple #[.bool false, .int .i64 0]) ∧ Kp (¬ InHull D ⟨x, y, 0⟩)) ∨ (e = .returned (.tuple #[.bool true, .int .i64 0]) ∧ Kp (InHull D ⟨x, y, 0⟩))) := by
  have eg : ∀ args w, (callFunc 54 args).run Try.prog w = .ok (.enter 54 args) w := enters_of Try.func54 (by kernel_rfl) rfl
  have C1 := Kp.mk (hfault_any a cap m L w h hm hN)
  have H := Kp.mk h
  have HN := Kp.mk hN
  have HLL := Kp.mk (h.len ptL_len (by omega))
  have hZ : (⟨x, y, 0⟩ : Pt).Near := by unfold Pt.Near; dsimp only; omega
  have HZ := Kp.mk hZ
  have N1 := Kp.mk (fun W => hnear_any x W hx.1 hx.2)
  have N2 := Kp.mk (fun W => hnear_any y W hy.1 hy.2)
  clear h hN hZ
  go_enter Try.func24, Try.ntmps24
  go_wp2_with fail
  refine C1.out.mono ?_
  rintro e w1 ⟨rfl, HB1⟩
  clear C1
  go_wp2_with fail
  refine (N1.out _).mono ?_
  rintro e w' ⟨rfl, rfl⟩
  go_wp2_with fail
  refine (N2.out _).mono ?_
  rintro e w' ⟨rfl, rfl⟩
  have hA := below_alloc (Nat.le_refl w1.heap.size) (.cells #[.int .i64 x, .int .i64 y, .int .i64 0] 41)
  have HP := Kp.mk (Box.new w1 #[.int .i64 x, .int .i64 y, .int .i64 0] 41)
  have HB2 := Kp.mk (below_step HB1.out hA)
  have C2 := Kp.mk (corners_any a cap m L _ (SlF.below H.out HB2.out) (by omega) HN.out)
  obtain ⟨bp, hbp⟩ : ∃ bp, bp = w1.heap.size := ⟨_, rfl⟩
  have HBP := Kp.mk hbp
  rw [← hbp] at HP
  clear hbp hA N1 N2
  go_wp2_with fail
  refine C2.out.mono ?_
  rintro e w2 ⟨ra, r, rc, K, C, rfl, HC, HR, hr, HS, HB3⟩
  have HB4 := Kp.mk (below_step HB2.out HB3.out)
  have HP2 := Kp.mk (HP.out.below HB3.out)
  have H2 := Kp.mk (SlF.below H.out HB4.out)
  have HLT := Kp.mk (corners_lt HC.out)
  have HH := Kp.mk (hullL_of HC.out)
  have hDl : (C.map (ptAt L)).length = r := by rw [List.length_map]; exact HR.out
  have HDL := Kp.mk hDl
  have HNC := Kp.mk (show ∀ i, i < r → C.getD i 0 < m + 1 ∧ (L.getD (C.getD i 0) pt0).Near from fun i hi => by
    have := HLT.out i (by rw [HR.out]; exact hi)
    exact ⟨by rw [← HLL.out]; exact this, HN.out _ (by rw [getD_at _ _ this]; exact List.getElem_mem _)⟩)
  have HCR := Kp.mk (show ∀ i, i < r → crn (C.map (ptAt L)) i = L.getD (C.getD i 0) pt0 from fun i hi => getD_pts L C i (by rw [HR.out]; exact hi))
  have hr0 : 0 < r := by have := HH.out.hull.len; omega
  simp only [← HBP.out]
  clear C2 HB1 HB2 HB3 HP HBP HC HLT hDl
  by_cases h3 : r < 3
  · have t3 : decide ((r : Int) < 3) = true := decide_eq_true (by omega)
    obtain ⟨r1, rfl⟩ : ∃ r1, r = r1 + 1 := ⟨r - 1, by omega⟩
    have HIN := Kp.mk (show InHull (C.map (ptAt L)) ⟨x, y, 0⟩ ↔ betw (L.getD (C.getD 0 0) pt0) (L.getD (C.getD r1 0) pt0) ⟨x, y, 0⟩ from by
      unfold InHull
      rw [HDL.out, if_pos h3, HCR.out 0 (by omega), show r1 + 1 - 1 = r1 by omega, HCR.out r1 (by omega)])
    obtain ⟨l1, n1⟩ := HNC.out 0 (by omega)
    obtain ⟨l2, n2⟩ := HNC.out r1 (by omega)
    have CB := Kp.mk (fun W => between_any (L.getD (C.getD 0 0) pt0) (L.getD (C.getD r1 0) pt0) ⟨x, y, 0⟩ W n1 n2 HZ.out)
    obtain ⟨cb', co, rfl, c0⟩ := nat_cell HS.out HR.out 0 (by omega)
    obtain ⟨_, _, e1, c1⟩ := nat_cell HS.out HR.out r1 (by omega)
    simp only [Option.some.injEq, Addr.mk.injEq, and_true] at e1
    obtain ⟨rfl, rfl⟩ := e1
    obtain ⟨pb, po, rfl, x0, x1, x2⟩ := pt_cells H2.out (C.getD 0 0) l1
    obtain ⟨_, _, e1, y0, y1, y2⟩ := pt_cells H2.out (C.getD r1 0) l2
    simp only [Option.some.injEq, Addr.mk.injEq, and_true] at e1
    obtain ⟨rfl, rfl⟩ := e1
    have z0 : w2.cell? ⟨bp, 0, none⟩ = some (.int .i64 x) := HP2.out.cell 0 rfl
    have z1 : w2.cell? ⟨bp, 1, none⟩ = some (.int .i64 y) := HP2.out.cell 1 rfl
    have z2 : w2.cell? ⟨bp, 2, none⟩ = some (.int .i64 0) := HP2.out.cell 2 rfl
    generalize L.getD (C.getD 0 0) pt0 = p1 at *
    generalize L.getD (C.getD r1 0) pt0 = p2 at *
    generalize C.getD 0 0 = i1 at *
    generalize C.getD r1 0 = i2 at *
    have e2 : IntKind.i64.wrap (((r1 + 1 : Nat) : Int) - 1) = (r1 : Nat) := by rw [IntWalk.i64_in _ (by omega)]; omega
    have e3 : IntKind.i64.wrap ((r1 : Int) + 1 - 1) = (r1 : Nat) := by rw [IntWalk.i64_in _ (by omega)]; omega
    rw [Nat.add_zero] at c0
    have k0 := later_cell c0
    have k1 := later_cell c1
    have k2 := later_cell x0
    have k3 := later_cell x1
    have k4 := later_cell x2
    have k5 := later_cell y0
    have k6 := later_cell y1
    have k7 := later_cell y2
    have k8 := later_cell z0
    have k9 := later_cell z1
    have k10 := later_cell z2
    by_cases hbt : betw p1 p2 ⟨x, y, 0⟩
    · have CB2 := Kp.mk (fun W => (CB.out W).mono (R' := fun e w' => e = .returned (.bool true) ∧ Below W.heap.size W w') (fun e w' h => by
        obtain ⟨⟨r, h1, h2⟩, h3⟩ := h
        rw [h2.2 hbt] at h1
        exact ⟨h1, h3⟩))
      have HF := Kp.mk (HIN.out.2 hbt)
      clear hbt HIN CB c0 c1 x0 x1 x2 y0 y1 y2 z0 z1 z2
      go_wp2
      refine region_later (by kernel_rfl) (by kernel_rfl) ?_
      iterate 19 (go_big_quiet_step ((go_at_call 52; exact q_later (CB2.out _))))
      refine wpQuiet_nil ?_
      rintro w' ⟨xl, rfl⟩
      have HB5 := Kp.mk (below_step HB4.out xl.le)
      go_wp2
      refine bodyPost_ret (v := .tuple #[.bool true, .int .i64 0]) (by simp [results, Try.results24, go_sem]) rfl ?_
      exact ⟨_, HH, HB5.out, .inr ⟨rfl, HF⟩⟩
    · have CB2 := Kp.mk (fun W => (CB.out W).mono (R' := fun e w' => e = .returned (.bool false) ∧ Below W.heap.size W w') (fun e w' h => by
        obtain ⟨⟨r, h1, h2⟩, h3⟩ := h
        cases r with
        | false => exact ⟨h1, h3⟩
        | true => exact absurd (h2.1 rfl) hbt))
      have HF := Kp.mk (show ¬ InHull (C.map (ptAt L)) ⟨x, y, 0⟩ from fun h => hbt (HIN.out.1 h))
      clear hbt HIN CB c0 c1 x0 x1 x2 y0 y1 y2 z0 z1 z2
      go_wp2
      refine region_later (by kernel_rfl) (by kernel_rfl) ?_
      iterate 19 (go_big_quiet_step ((go_at_call 52; exact q_later (CB2.out _))))
      refine wpQuiet_nil ?_
      rintro w' ⟨xl, rfl⟩
      have HB5 := Kp.mk (below_step HB4.out xl.le)
      go_wp2
      refine bodyPost_ret (v := .tuple #[.bool false, .int .i64 0]) (by simp [results, Try.results24, go_sem]) rfl ?_
      exact ⟨_, HH, HB5.out, .inl ⟨rfl, HF⟩⟩
  · have t3 : decide ((r : Int) < 3) = false := decide_eq_false (by omega)
    have hA := below_alloc (Nat.le_refl w2.heap.size) (.cells #[.bool true] 4)
    have hX := Box.new w2 #[.bool true] 4
    have hbpl := HP2.out.lt
    have CE := Kp.mk (edges_any 54 #[.pointer (some ⟨w2.heap.size, 0, none⟩), .pointer (some ⟨bp, 0, none⟩)] eg (fun k W => Box W w2.heap.size #[.bool (hasK (C.map (ptAt L)) ⟨x, y, 0⟩ k)] 4 ∧ Below w2.heap.size w2 W) a cap (m + 1) L ra rc r C (w2.alloc (.cells #[.bool true] 4)) HR.out hr (fun i hi => (HNC.out i hi).1)
      (fun k W hI => ⟨SlF.below H2.out hI.2, SlI.below HS.out hI.2⟩) (fun k W q hI => ⟨hI.1.drewN q, below_drewN hI.2 q⟩)
      (fun k W hk hI => by
        have hc1 := HCR.out k hk
        have hm1 : (k + 1) % r < r := Nat.mod_lt _ hr0
        have hc2 : nxt (C.map (ptAt L)) k = L.getD (C.getD ((k + 1) % r) 0) pt0 := by
          unfold nxt; rw [HDL.out]; exact HCR.out _ hm1
        have n1 := (HNC.out k hk).2
        have n2 := (HNC.out _ hm1).2
        refine (has1_any w2.heap.size bp _ (L.getD (C.getD k 0) pt0) (L.getD (C.getD ((k + 1) % r) 0) pt0) ⟨x, y, 0⟩ W hI.1 (HP2.out.below hI.2) n1 n2 HZ.out hbpl).mono ?_
        rintro e w' ⟨he, hx, hb⟩
        exact ⟨he, by rw [hasK_succ, hc1, hc2]; exact hx, hI.2.trans hb⟩)
      ⟨by rw [hasK_zero]; exact hX, hA⟩)
    clear hA hX
    go_wp2_with fail
    refine CE.out.mono ?_
    rintro e w5 ⟨rfl, HI⟩
    have c0 := HI.out.1.cell 0 rfl
    have HB5 := Kp.mk (below_step HB4.out HI.out.2)
    have HIF := Kp.mk (hasK_all (D := C.map (ptAt L)) ⟨x, y, 0⟩ (by rw [HDL.out]; omega))
    rw [HDL.out] at HIF
    obtain ⟨v, hv⟩ : ∃ v, hasK (C.map (ptAt L)) ⟨x, y, 0⟩ r = v := ⟨_, rfl⟩
    rw [hv] at HIF
    have c1 : w5.cell? ⟨w2.heap.size, 0, none⟩ = some (.bool v) := by rw [← hv]; exact c0
    clear c0 CE HI hv
    go_wp2
    cases v with
    | true =>
      refine bodyPost_ret (v := .tuple #[.bool true, .int .i64 0]) (by simp [results, Try.results24, go_sem]) rfl ?_
      exact ⟨_, HH, HB5.out, .inr ⟨rfl, ⟨HIF.out.1 rfl⟩⟩⟩
    | false =>
      refine bodyPost_ret (v := .tuple #[.bool false, .int .i64 0]) (by simp [results, Try.results24, go_sem]) rfl ?_
      exact ⟨_, HH, HB5.out, .inl ⟨rfl, ⟨fun h => by have := HIF.out.2 h; cases this⟩⟩⟩

end Go.Proofs.Ytlmdlholmlbcbaa

import Derived.Test.YtedchegejalolaaGreatDoorMb4
import Derived.Test.YtedchegejalolaaGreatDoorMb32
import Derived.Test.YtedchegejalolaaGreatDoorMb8
import Derived.Deep.RegionHeld3
import Derived.Deep.RegionLaw
/- desk: count. -/
namespace Go.Proofs.YtedchegejalolaaGreatDoor.Dk
set_option linter.unusedVariables false
open Go.RowKit

def nW : Wd := [110]
set_option maxRecDepth 100000 in
set_option maxHeartbeats 8000000 in
theorem count_any (B db pc : Nat) (pa : Option Addr) (L : List Pt) (t0 t1 t2 t3 : Wd) (x0 x1 x2 x3 : Int) (h0 : IsNum t0 x0) (h1 : IsNum t1 x1) (h2 : IsNum t2 x2) (h3 : IsNum t3 x3) (h32 : ∀ t ∈ [t0, t1, t2, t3], (32 : UInt8) ∉ t) (w : World) (h : DS w B db pa pc L) (hL : L.length ≤ 150) (hN : ∀ p ∈ L, p.Near) (hT : Tab w) (hBig : Big w) :
    Calls Tryz.prog 27 #[.pointer (some ⟨db, 0, none⟩), str (joinC 32 [t0, t1, t2, t3])] w fun e w' => e = .returned (str (toldT nW [(cntR L x0 x1 x2 x3 : Int)])) ∧ Kp (Below w.heap.size w w') := by
  have hjl : (joinC 32 [t0, t1, t2, t3]).length ≤ 1000000 := by
    have l0 := h0.len
    have l1 := h1.len
    have l2 := h2.len
    have l3 := h3.len
    simp only [joinC, List.length_append, List.length_cons]; omega
  have CS := Kp.mk (split_any 32 [t0, t1, t2, t3] (by simp) h32 hjl w hBig)
  have H := Kp.mk h
  have HT := Kp.mk hT
  have HNR := Kp.mk hN
  have HI := Kp.mk (show ∀ i (h : i < [t0, t1, t2, t3].length), IsNum [t0, t1, t2, t3][i] ([x0, x1, x2, x3].getD i 0) from fun i hi => by
    have hi3 : i = 0 ∨ i = 1 ∨ i = 2 ∨ i = 3 := by simp at hi; omega
    rcases hi3 with rfl | rfl | rfl | rfl
    · exact h0
    · exact h1
    · exact h2
    · exact h3)
  obtain ⟨cc, hcc⟩ : ∃ cc, cntR L x0 x1 x2 x3 = cc := ⟨_, rfl⟩
  rw [hcc]
  have hcle : cc ≤ L.length := by rw [← hcc]; unfold cntR; exact List.countP_le_length
  have HCC := Kp.mk hcc
  clear hcc
  generalize joinC 32 [t0, t1, t2, t3] = txt at *
  clear h0 h1 h2 h3 h32 h hT hBig hjl hN
  go_enter Tryz.func27, Tryz.ntmps27
  go_wp2_with fail
  refine CS.out.mono ?_
  rintro e w1 ⟨rfl, hw1⟩
  have hal := below_alloc (Nat.le_refl w.heap.size) (.cells (strs [t0, t1, t2, t3]).toArray 9)
  rw [← hw1] at hal
  have CN := Kp.mk (numbers_any [t0, t1, t2, t3] [x0, x1, x2, x3] rfl HI.out (some ⟨w.heap.size, 0, none⟩) 4 4 4 w1 (by
    rw [hw1]
    exact own_slc (B := 0) (e := 9) ⟨by simp [strs], .inr ⟨w.heap.size, 4, (strs [t0, t1, t2, t3]).toArray, rfl, Nat.zero_le _, heap_alloc_new w _, Nat.le_refl _, by decide, rfl, rfl⟩⟩) rfl (by omega) (HT.out.below hal))
  have HA := Kp.mk hal
  clear CS hw1 hal HI
  go_wp2_with fail
  refine CN.out.mono ?_
  rintro e w3 ⟨oa, oc, rfl, HO, HB3⟩
  have HW3 := Kp.mk (below_step HA.out HB3.out)
  have H3 := Kp.mk (H.out.below HW3.out)
  obtain ⟨gt, rfl, hgt1, hgt2⟩ := own_some HO.out (by omega)
  have HC := Kp.mk (fun X : Later w3 => gcountN pa pc L.length L x0 x1 x2 x3 X.val (own_slc (own_below H3.out.row X.le)) rfl hL HNR.out)
  have k0 := later_cell (show w3.cell? ⟨db, 0, none⟩ = some (.slice pa L.length pc) from H3.out.box.cell 0 rfl)
  have i0 := later_cell (show w3.cell? ⟨gt, 0, none⟩ = some (.int .i64 x0) from HO.out.cellAt 0 (by omega))
  have i1 := later_cell (show w3.cell? ⟨gt, 1, none⟩ = some (.int .i64 x1) from HO.out.cellAt 1 (by omega))
  have i2 := later_cell (show w3.cell? ⟨gt, 2, none⟩ = some (.int .i64 x2) from HO.out.cellAt 2 (by omega))
  have i3 := later_cell (show w3.cell? ⟨gt, 3, none⟩ = some (.int .i64 x3) from HO.out.cellAt 3 (by omega))
  rw [HCC.out] at HC
  clear CN
  go_upto_region 4 with (fail)
  refine region_later (by kernel_rfl) (by kernel_rfl) ?_
  iterate 23 (go_big_quiet_step ((go_at_call 44; exact q_later (HC.out _))))
  refine wpQuiet_nil ?_
  rintro w' ⟨xl, rfl⟩
  have HB4 := Kp.mk (HW3.out.trans (xl.le.mono HW3.out.size))
  generalize xl.val = w4 at *
  clear k0 i0 i1 i2 i3 HC
  have hal := below_alloc (Nat.le_refl w4.heap.size) (.cells #[.int .i64 (cc : Int)] 3)
  have hcb : (cc : Int) ≤ 9223372036854775807 := by omega
  have CT := Kp.mk (told_any nW (by decide) (some ⟨w4.heap.size, 0, none⟩) 1 1 [(cc : Int)] (w4.alloc (.cells #[.int .i64 (cc : Int)] 3)) (own_slc (B := 0) (e := 3) ⟨rfl, .inr ⟨w4.heap.size, 1, #[.int .i64 (cc : Int)], rfl, Nat.zero_le _, heap_alloc_new w4 _, Nat.le_refl _, by decide, rfl, rfl⟩⟩) rfl (by omega) (fun z hz => by rw [List.mem_singleton.1 hz]; omega) (HT.out.below (below_step HB4.out hal)))
  have HAL := Kp.mk (below_step HB4.out hal)
  clear hal
  go_wp2_with fail
  refine CT.out.mono ?_
  rintro e w8 ⟨rfl, HB8⟩
  have HBF := Kp.mk (below_step HAL.out HB8.out)
  clear CT HAL HB8
  go_wp2
  go_ret
  exact ⟨rfl, HBF⟩

end Go.Proofs.YtedchegejalolaaGreatDoor.Dk

/- desk: put. -/
namespace Go.Proofs.YtedchegejalolaaGreatDoor.Dk
set_option linter.unusedVariables false
open Go.RowKit

set_option maxRecDepth 100000 in
set_option maxHeartbeats 8000000 in
theorem put_any (B db pc : Nat) (pa : Option Addr) (L : List Pt) (tx ty tv : Wd) (x y v : Int) (hx : IsNum tx x) (hy : IsNum ty y) (hv : IsNum tv v) (h32 : ∀ t ∈ [tx, ty, tv], (32 : UInt8) ∉ t) (w : World) (h : DS w B db pa pc L) (hL : L.length < 150) (hB : B ≤ w.heap.size) (hT : ∀ W, Below B w W → Tab W) (hBig : Big w) :
    Calls Tryz.prog 25 #[.pointer (some ⟨db, 0, none⟩), str (joinC 32 [tx, ty, tv])] w fun e w' => ∃ (pa' : Option Addr) (pc' : Nat), e = .returned (str (toldT okW [(L.length : Int)])) ∧ Kp (Out B db pa w w' (L ++ [⟨x, y, v⟩]) pa' pc') := by
  have hjl : (joinC 32 [tx, ty, tv]).length ≤ 1000000 := by
    have h1 := hx.len
    have h2 := hy.len
    have h3 := hv.len
    simp only [joinC, List.length_append, List.length_cons]; omega
  have CS := Kp.mk (split_any 32 [tx, ty, tv] (by simp) h32 hjl w hBig)
  have H := Kp.mk h
  have HT := Kp.mk hT
  have HI := Kp.mk (show ∀ i (h : i < [tx, ty, tv].length), IsNum [tx, ty, tv][i] ([x, y, v].getD i 0) from fun i hi => by
    have hi3 : i = 0 ∨ i = 1 ∨ i = 2 := by simp at hi; omega
    rcases hi3 with rfl | rfl | rfl
    · exact hx
    · exact hy
    · exact hv)
  generalize joinC 32 [tx, ty, tv] = txt at *
  clear hx hy hv h32 h hT hBig hjl
  go_enter Tryz.func25, Tryz.ntmps25
  go_wp2_with fail
  refine CS.out.mono ?_
  rintro e w1 ⟨rfl, hw1⟩
  have hal := below_alloc (Nat.le_refl w.heap.size) (.cells (strs [tx, ty, tv]).toArray 9)
  rw [← hw1] at hal
  have CN := Kp.mk (numbers_any [tx, ty, tv] [x, y, v] rfl HI.out (some ⟨w.heap.size, 0, none⟩) 3 3 3 w1 (by
    rw [hw1]
    exact own_slc (B := 0) (e := 9) ⟨by simp [strs], .inr ⟨w.heap.size, 3, (strs [tx, ty, tv]).toArray, rfl, Nat.zero_le _, heap_alloc_new w _, Nat.le_refl _, by decide, rfl, rfl⟩⟩) rfl (by omega) (HT.out w1 (hal.mono hB)))
  have HA := Kp.mk hal
  clear CS hw1 hal HI
  go_wp2_with fail
  refine CN.out.mono ?_
  rintro e w3 ⟨oa, oc, rfl, HO, HB3⟩
  have HW3 := Kp.mk (below_step HA.out HB3.out)
  have H3 := Kp.mk (H.out.below HW3.out)
  obtain ⟨gt, rfl, hgt1, hgt2⟩ := own_some HO.out (by omega)
  obtain ⟨n, hn⟩ : ∃ n, L.length = n := ⟨_, rfl⟩
  have HN := Kp.mk hn
  have k0 : w3.cell? ⟨db, 0, none⟩ = some (.slice pa n pc) := by have := H3.out.box.cell 0 rfl; rwa [hn] at this
  have hS0 : w3.cell? ⟨gt, 0, none⟩ = some (.int .i64 x) ∧ w3.cell? ⟨gt, 1, none⟩ = some (.int .i64 y) ∧ w3.cell? ⟨gt, 2, none⟩ = some (.int .i64 v) := ⟨HO.out.cellAt 0 (by omega), HO.out.cellAt 1 (by omega), HO.out.cellAt 2 (by omega)⟩
  rw [hn] at hL
  have hn150 : ¬ (n : Int) = 150 := by omega
  have hn151 : ((n : Int) == 150) = false := by rw [beq_eq_false_iff_ne]; exact hn150
  have hge : w.heap.size ≤ gt := Nat.le_trans HA.out.size hgt1
  have hdbw : db < w.heap.size := H.out.box.lt
  have HR3 := Kp.mk (show w3.ownsRow B 78 3 (.slice pa n pc) n (flat ptL L) from by have := H3.out.row; rwa [hn] at this)
  clear CN hn
  go_upto_region 6 with (fail)
  have hbA : Below w3.heap.size w3 (w3.alloc (.cells #[.int .i64 x, .int .i64 y, .int .i64 v] 78)).drew := (below_alloc (Nat.le_refl _) _).drew
  have hSa : ∀ o, (w3.alloc o).cell? ⟨gt, 0, none⟩ = some (.int .i64 x) ∧ (w3.alloc o).cell? ⟨gt, 1, none⟩ = some (.int .i64 y) ∧ (w3.alloc o).cell? ⟨gt, 2, none⟩ = some (.int .i64 v) := fun o => by
    have hb := below_alloc (Nat.le_refl w3.heap.size) o
    exact ⟨(hb.cell (p := ⟨gt, 0, none⟩) hgt2).trans hS0.1, (hb.cell (p := ⟨gt, 1, none⟩) hgt2).trans hS0.2.1, (hb.cell (p := ⟨gt, 2, none⟩) hgt2).trans hS0.2.2⟩
  have k0a : ∀ o, (w3.alloc o).cell? ⟨db, 0, none⟩ = some (.slice pa n pc) := fun o => ((below_alloc (Nat.le_refl w3.heap.size) o).cell (p := ⟨db, 0, none⟩) H3.out.box.lt).trans k0
  have HRA := Kp.mk (own_below HR3.out hbA)
  have HAT := Kp.mk (show (w3.alloc (.cells #[.int .i64 x, .int .i64 y, .int .i64 v] 78)).drew.heap[w3.heap.size]? = some (.cells #[.int .i64 x, .int .i64 y, .int .i64 v] 78) from heap_alloc_new w3 _)
  have hBa : B ≤ (w3.alloc (.cells #[.int .i64 x, .int .i64 y, .int .i64 v] 78)).drew.heap.size := by have := hbA.size; have := HW3.out.size; omega
  have HX := Kp.mk (fun (ra : Option Addr) (rc : Nat) (w5 : World) (ho : w5.ownsRow B 78 3 (.slice ra (n + 1) rc) (n + 1) (flat ptL L ++ #[.int .i64 x, .int .i64 y, .int .i64 v].toList)) (hg : (w3.alloc (.cells #[.int .i64 x, .int .i64 y, .int .i64 v] 78)).drew.grownBy w5 (blk pa)) (hno : NewOr (w3.alloc (.cells #[.int .i64 x, .int .i64 y, .int .i64 v] 78)).drew pa ra) =>
    show (w5.cell? ⟨gt, 0, none⟩ = some (.int .i64 x) ∧ w5.cell? ⟨gt, 1, none⟩ = some (.int .i64 y) ∧ w5.cell? ⟨gt, 2, none⟩ = some (.int .i64 v)) ∧ w5.cell? ⟨db, 0, none⟩ = some (.slice pa n pc) ∧ w5.frozen? ⟨db, 0, none⟩ = false ∧ Kp (((w5.setCell ⟨db, 0, none⟩ (.slice ra (n + 1) rc)).cell? ⟨gt, 0, none⟩ = some (.int .i64 x) ∧ (w5.setCell ⟨db, 0, none⟩ (.slice ra (n + 1) rc)).cell? ⟨gt, 1, none⟩ = some (.int .i64 y) ∧ (w5.setCell ⟨db, 0, none⟩ (.slice ra (n + 1) rc)).cell? ⟨gt, 2, none⟩ = some (.int .i64 v)) ∧ Out B db pa w (w5.setCell ⟨db, 0, none⟩ (.slice ra (n + 1) rc)) (L ++ [⟨x, y, v⟩]) ra rc) from by
    have hga : w3.heap.size ≤ (w3.alloc (.cells #[.int .i64 x, .int .i64 y, .int .i64 v] 78)).drew.heap.size := hbA.size
    have hgdb : gt ≠ db := by omega
    have hgpa : ¬ blk pa = some gt := fun e => (ty_own HO.out rfl).1.ne (ty_own HR3.out e).1 (by decide) rfl
    have hC5 : Chg (fun k => blk pa = some k) (w3.alloc (.cells #[.int .i64 x, .int .i64 y, .int .i64 v] 78)).drew w5 := Chg.of_grown hg (fun k e => e)
    have hdpa : ¬ blk pa = some db := fun e => TyAt.ne (w := w3) (e := 44) ⟨_, H3.out.box⟩ (ty_own HR3.out e).1 (by decide) rfl
    have hb5 := Chg.box (H3.out.box.below hbA) hC5 hdpa
    have hd5 := hb5.cell 0 rfl
    rw [HN.out] at hd5
    have c0 := Chg.cell ((hbA.cell (p := ⟨gt, 0, none⟩) hgt2).trans hS0.1) hC5 hgpa
    have c1 := Chg.cell ((hbA.cell (p := ⟨gt, 1, none⟩) hgt2).trans hS0.2.1) hC5 hgpa
    have c2 := Chg.cell ((hbA.cell (p := ⟨gt, 2, none⟩) hgt2).trans hS0.2.2) hC5 hgpa
    have hgs := grown_set w5 db 0 (.slice ra (n + 1) rc)
    have hC6 : Chg (fun k => k = db) w5 (w5.setCell ⟨db, 0, none⟩ (.slice ra (n + 1) rc)) := Chg.of_grown hgs (fun k e => by cases e; rfl)
    have hn1 : (L ++ [(⟨x, y, v⟩ : Pt)]).length = n + 1 := by rw [List.length_append, HN.out]; rfl
    refine ⟨⟨c0, c1, c2⟩, hd5, hb5.free 0, ⟨⟨Chg.cell c0 hC6 hgdb, Chg.cell c1 hC6 hgdb, Chg.cell c2 hC6 hgdb⟩, ⟨⟨?_, ?_, H3.out.lo⟩, ?_, ?_⟩⟩⟩
    · rw [hn1]
      have := box_put (i := 0) hb5 (.slice ra (n + 1) rc)
      simpa using this
    · rw [hn1]
      have ho2 : w5.ownsRow B 78 3 (.slice ra (n + 1) rc) (n + 1) (flat ptL (L ++ [(⟨x, y, v⟩ : Pt)])) := by rw [flat_append]; simpa [flat, ptL] using ho
      exact own_keep ho2 hgs (fun k e e2 => by
        cases e
        exact TyAt.ne (w := w5) (e := 44) ⟨_, hb5⟩ (ty_own ho2 e2).1 (by decide) rfl)
    · exact ((Chg.of_below (HW3.out.trans (hbA.mono HW3.out.size))).same (hC5.weak (fun k e => .inr e))).same (hC6.weak (fun k e => .inl e))
    · intro k e
      rcases hno with h1 | ⟨g, h1, h2⟩
      · rw [h1] at e; exact .inl e
      · rw [h1] at e
        simp only [Option.some.injEq] at e
        have := HW3.out.size
        exact .inr (by omega))
  clear hbA
  refine wp_region_noPanic ?_
  refine wp_region_held_drew (S := (fun W => W.cell? ⟨gt, 0, none⟩ = some (.int .i64 x) ∧ W.cell? ⟨gt, 1, none⟩ = some (.int .i64 y) ∧ W.cell? ⟨gt, 2, none⟩ = some (.int .i64 v))) (by kernel_rfl) ?_ (fun hHeld => ?_)
  · exact hS0
  refine wpAnyH_take (i := 0) (v := ?_) rfl (by kernel_rfl) (by kernel_rfl) (by kernel_rfl) (fun _ _ _ h => h) (Or.inl ⟨by rfl, ?_⟩) (by assumption) ?_
  rotate_left
  · (intro w hSw; (try dsimp only at hSw); go_simp; try with_reducible rfl)
  try simp only [Act.put]
  refine wpAnyH_take (i := 1) (v := ?_) rfl (by kernel_rfl) (by kernel_rfl) (by kernel_rfl) (fun _ _ _ h => h) (Or.inl ⟨by rfl, ?_⟩) (by assumption) ?_
  rotate_left
  · (intro w hSw; (try dsimp only at hSw); go_simp; try with_reducible rfl)
  try simp only [Act.put]
  refine wpAnyH_take (i := 2) (v := ?_) rfl (by kernel_rfl) (by kernel_rfl) (by kernel_rfl) (fun _ _ _ h => h) (Or.inl ⟨by rfl, ?_⟩) (by assumption) ?_
  rotate_left
  · (intro w hSw; (try dsimp only at hSw); go_simp; try with_reducible rfl)
  try simp only [Act.put]
  refine wpAnyH_take (i := 3) (v := ?_) rfl (by kernel_rfl) (by kernel_rfl) (by kernel_rfl) (fun _ _ _ h => h) (Or.inl ⟨by rfl, ?_⟩) (by assumption) ?_
  rotate_left
  · (intro w hSw; (try dsimp only at hSw); go_simp; try with_reducible rfl)
  try simp only [Act.put]
  refine wpAnyH_take (i := 5) (v := ?_) rfl (by kernel_rfl) (by kernel_rfl) (by kernel_rfl) (fun _ _ _ h => h) (Or.inl ⟨by rfl, ?_⟩) (by assumption) ?_
  rotate_left
  · (intro w hSw; (try dsimp only at hSw); go_simp; try with_reducible rfl)
  try simp only [Act.put]
  refine wpAnyH_take (i := 6) (v := ?_) rfl (by kernel_rfl) (by kernel_rfl) (by kernel_rfl) (fun _ _ _ h => h) (Or.inl ⟨by rfl, ?_⟩) (by assumption) ?_
  rotate_left
  · (intro w hSw; (try dsimp only at hSw); go_simp; try with_reducible rfl)
  try simp only [Act.put]
  refine wpAnyH_take (i := 7) (v := ?_) rfl (by kernel_rfl) (by kernel_rfl) (by kernel_rfl) (fun _ _ _ h => h) (Or.inl ⟨by rfl, ?_⟩) (by assumption) ?_
  rotate_left
  · (intro w hSw; (try dsimp only at hSw); go_simp; try with_reducible rfl)
  try simp only [Act.put]
  refine wpAnyH_take (i := 8) (v := ?_) rfl (by kernel_rfl) (by kernel_rfl) (by kernel_rfl) (fun _ _ _ h => h) (Or.inl ⟨by rfl, ?_⟩) (by assumption) ?_
  rotate_left
  · (intro w hSw; (try dsimp only at hSw); go_simp; try with_reducible rfl)
  try simp only [Act.put]
  refine wpAnyH_take (i := 9) (v := ?_) rfl (by kernel_rfl) (by kernel_rfl) (by kernel_rfl) (fun _ _ _ h => h) (Or.inl ⟨by rfl, ?_⟩) (by assumption) ?_
  rotate_left
  · (intro w hSw; (try dsimp only at hSw); go_simp; try with_reducible rfl)
  try simp only [Act.put]
  refine wpAnyH_take (i := 10) (v := ?_) rfl (by kernel_rfl) (by kernel_rfl) (by kernel_rfl) (fun _ _ _ h => h) (Or.inl ⟨by rfl, ?_⟩) (by assumption) ?_
  rotate_left
  · (intro w hSw; (try dsimp only at hSw); go_simp; try with_reducible rfl)
  try simp only [Act.put]
  refine wpAnyH_take (i := 11) (v := ?_) rfl (by kernel_rfl) (by kernel_rfl) (by kernel_rfl) (fun _ _ _ h => h) (Or.inl ⟨by rfl, ?_⟩) (by assumption) ?_
  rotate_left
  · (intro w hSw; (try dsimp only at hSw); go_simp; try with_reducible rfl)
  try simp only [Act.put]
  refine wpAnyH_take (i := 12) (v := ?_) rfl (by kernel_rfl) (by kernel_rfl) (by kernel_rfl) (fun _ _ _ h => h) (Or.inl ⟨by rfl, ?_⟩) (by assumption) ?_
  rotate_left
  · (intro w hSw; (try dsimp only at hSw); go_simp; try with_reducible rfl)
  try simp only [Act.put]
  refine wpAnyH_take (i := 13) (v := ?_) rfl (by kernel_rfl) (by kernel_rfl) (by kernel_rfl) (fun _ _ _ h => h) (Or.inl ⟨by rfl, ?_⟩) (by assumption) ?_
  rotate_left
  · (intro w hSw; (try dsimp only at hSw); go_simp; try with_reducible rfl)
  try simp only [Act.put]
  refine wpAnyH_take (i := 14) (v := ?_) rfl (by kernel_rfl) (by kernel_rfl) (by kernel_rfl) (fun _ _ _ h => h) (Or.inl ⟨by rfl, ?_⟩) (by assumption) ?_
  rotate_left
  · (intro w hSw; (try dsimp only at hSw); go_simp; try with_reducible rfl)
  try simp only [Act.put]
  refine wpAnyH_ready (rs := [4, 15]) (by kernel_rfl) (by simp) ?_
  refine AllReadyH.cons rfl (fun K hK => ?_) (AllReadyH.cons rfl (fun K hK => ?_) AllReadyH.nil)
  go_simp
  refine hK.out _ _ ?_ (fun hHeld => ?_)
  · first | exact hS0 | exact hSa _
  clear hK K
  try simp only [Act.put]
  refine wpAnyH_ready (rs := [15]) (by kernel_rfl) (by simp) ?_
  refine AllReadyH.cons rfl (fun K hK => ?_) AllReadyH.nil
  go_simp
  refine hK.out _ _ ?_ (fun hHeld => ?_)
  · exact hSa _
  clear hK K
  try simp only [Act.put]
  refine wpAnyH_ready (rs := [16]) (by kernel_rfl) (by simp) ?_
  refine AllReadyH.cons rfl (fun K hK => ?_) AllReadyH.nil
  refine step_push tPts (by rfl) _ _ (by rfl) B pa n pc (flat ptL L) (by rfl) HRA.out 1 w3.heap.size _ HAT.out (by rfl) (by rfl) (by simp [Value.oneCell']) (by omega) (by omega) (by omega) hBa ?_
  intro ra rc w5 hown5 hgr5 hno5
  obtain ⟨hS5, hD5, hF5, HO5⟩ := HX.out ra rc w5 hown5 hgr5 hno5
  refine hK.out _ _ ?_ (fun hHeld => ?_)
  · exact hS5
  clear hK K
  try simp only [Act.put]
  refine wpAnyH_take (i := 17) (v := ?_) rfl (by kernel_rfl) (by kernel_rfl) (by kernel_rfl) (fun _ _ _ h => h) (Or.inl ⟨by rfl, ?_⟩) (by assumption) ?_
  rotate_left
  · (intro w hSw; (try dsimp only at hSw); go_simp; try with_reducible rfl)
  try simp only [Act.put]
  refine wpAnyH_take (i := 18) (v := ?_) rfl (by kernel_rfl) (by kernel_rfl) (by kernel_rfl) (fun _ _ _ h => h) (Or.inl ⟨by rfl, ?_⟩) (by assumption) ?_
  rotate_left
  · (intro w hSw; (try dsimp only at hSw); go_simp; try with_reducible rfl)
  try simp only [Act.put]
  refine wpAnyH_ready (rs := [19]) (by kernel_rfl) (by simp) ?_
  refine AllReadyH.cons rfl (fun K hK => ?_) AllReadyH.nil
  go_simp
  refine hK.out _ _ ?_ (fun hHeld => ?_)
  · exact HO5.out.1
  clear hK K
  try simp only [Act.put]
  refine wpAnyH_done (by kernel_rfl) ?_ _
  refine NoPanic.normal ?_
  rotate_left
  go_simp
  refine hK.out _ _ ?_ (fun hHeld => ?_)
  · exact hSa _
  clear hK K
  try simp only [Act.put]
  refine wpAnyH_ready (rs := [4]) (by kernel_rfl) (by simp) ?_
  refine AllReadyH.cons rfl (fun K hK => ?_) AllReadyH.nil
  go_simp
  refine hK.out _ _ ?_ (fun hHeld => ?_)
  · first | exact hS0 | exact hSa _
  clear hK K
  try simp only [Act.put]
  refine wpAnyH_ready (rs := [16]) (by kernel_rfl) (by simp) ?_
  refine AllReadyH.cons rfl (fun K hK => ?_) AllReadyH.nil
  refine step_push tPts (by rfl) _ _ (by rfl) B pa n pc (flat ptL L) (by rfl) HRA.out 1 w3.heap.size _ HAT.out (by rfl) (by rfl) (by simp [Value.oneCell']) (by omega) (by omega) (by omega) hBa ?_
  intro ra rc w5 hown5 hgr5 hno5
  obtain ⟨hS5, hD5, hF5, HO5⟩ := HX.out ra rc w5 hown5 hgr5 hno5
  refine hK.out _ _ ?_ (fun hHeld => ?_)
  · exact hS5
  clear hK K
  try simp only [Act.put]
  refine wpAnyH_take (i := 17) (v := ?_) rfl (by kernel_rfl) (by kernel_rfl) (by kernel_rfl) (fun _ _ _ h => h) (Or.inl ⟨by rfl, ?_⟩) (by assumption) ?_
  rotate_left
  · (intro w hSw; (try dsimp only at hSw); go_simp; try with_reducible rfl)
  try simp only [Act.put]
  refine wpAnyH_take (i := 18) (v := ?_) rfl (by kernel_rfl) (by kernel_rfl) (by kernel_rfl) (fun _ _ _ h => h) (Or.inl ⟨by rfl, ?_⟩) (by assumption) ?_
  rotate_left
  · (intro w hSw; (try dsimp only at hSw); go_simp; try with_reducible rfl)
  try simp only [Act.put]
  refine wpAnyH_ready (rs := [19]) (by kernel_rfl) (by simp) ?_
  refine AllReadyH.cons rfl (fun K hK => ?_) AllReadyH.nil
  go_simp
  refine hK.out _ _ ?_ (fun hHeld => ?_)
  · exact HO5.out.1
  clear hK K
  try simp only [Act.put]
  refine wpAnyH_done (by kernel_rfl) ?_ _
  refine NoPanic.normal ?_
  rotate_left
  all_goals
    have HOK := Kp.mk HO5.out.2
    have hpaB := fun k (e : Fd db pa k) => show B ≤ k from by
      rcases e with rfl | e
      · exact H.out.lo
      · exact (own_lt H.out.row k e).1
    have HB6 := Kp.mk (HOK.out.chg.below hB hpaB)
    clear HX HRA HAT hS0 hSa k0 k0a HO HR3 H3 HO5 hS5 hD5 hF5 hown5 hgr5 hno5 hpaB
    generalize w5.setCell ⟨db, 0, none⟩ (.slice ra (n + 1) rc) = w6 at *
    have k6 : w6.cell? ⟨db, 0, none⟩ = some (.slice ra (n + 1) rc) := by
      have := HOK.out.ds.box.cell 0 rfl
      rwa [show (L ++ [(⟨x, y, v⟩ : Pt)]).length = n + 1 by rw [List.length_append, HN.out]; rfl] at this
    have e1 : IntKind.i64.wrap ((n : Int) + 1 - 1) = (n : Int) := by rw [show (n : Int) + 1 - 1 = (n : Int) by omega]; exact IntWalk.i64_in _ (by omega)
    have e2 : IntKind.i64.wrap (n : Int) = (n : Int) := IntWalk.i64_in _ (by omega)
    have hal := below_alloc (Nat.le_refl w6.heap.size) (.cells #[.int .i64 (n : Int)] 3)
    have hB6z : B ≤ w6.heap.size := Nat.le_trans hB HOK.out.chg.size
    have CT := Kp.mk (told_any okW (by decide) (some ⟨w6.heap.size, 0, none⟩) 1 1 [(n : Int)] (w6.alloc (.cells #[.int .i64 (n : Int)] 3)) (own_slc (B := 0) (e := 3) ⟨rfl, .inr ⟨w6.heap.size, 1, #[.int .i64 (n : Int)], rfl, Nat.zero_le _, heap_alloc_new w6 _, Nat.le_refl _, by decide, rfl, rfl⟩⟩) rfl (by omega) (fun z hz => by rw [List.mem_singleton.1 hz]; omega) (HT.out _ (HB6.out.trans (hal.mono hB6z))))
    have HAL := Kp.mk hal
    clear hal
    go_wp2_with fail
    refine CT.out.mono ?_
    rintro e w8 ⟨rfl, HB8⟩
    have HB68 := Kp.mk (HAL.out.trans (HB8.out.mono HAL.out.size))
    clear CT k6 HAL HB8
    go_wp2
    go_ret
    exact ⟨ra, rc, by rw [HN.out]; rfl, ⟨⟨HOK.out.ds.below HB68.out, HOK.out.chg.same (Chg.of_below HB68.out), HOK.out.new⟩⟩⟩

end Go.Proofs.YtedchegejalolaaGreatDoor.Dk

/- desk: load of a text of odd length. -/
namespace Go.Proofs.YtedchegejalolaaGreatDoor.Dk
set_option linter.unusedVariables false
open Go.RowKit

set_option maxRecDepth 100000 in
set_option maxHeartbeats 4000000 in
theorem load_odd (db : Nat) (t : Wd) (k : Nat) (h : t.length = 2 * k + 1) (hk : k ≤ 1000) (w : World) :
    Calls Tryz.prog 28 #[.pointer (some ⟨db, 0, none⟩), str t] w fun e w' => e = .returned (str bad) ∧ Kp (Below w.heap.size w w') := by
  obtain ⟨n, hn⟩ : ∃ n, t.length = n := ⟨_, rfl⟩
  have hsz : (⟨t.toArray⟩ : ByteArray).size = n := by show t.toArray.size = n; simpa using hn
  have e1 : (n : Int).tmod 2 = 1 := by rw [Int.tmod_eq_emod_of_nonneg (by omega)]; omega
  have e2 : (n : Int) % 2 = 1 := by omega
  have e3 : IntKind.i64.wrap 1 = 1 := rfl
  clear h hn
  go_enter Tryz.func28, Tryz.ntmps28
  go_wp2
  go_ret
  exact ⟨rfl, ⟨Below.refl _ _⟩⟩

end Go.Proofs.YtedchegejalolaaGreatDoor.Dk

/- Images: what the laws ask; the walks of the laws' own comparisons. -/
namespace Go.Proofs.YtedchegejalolaaGreatDoor
set_option linter.unusedVariables false
open Go.RowKit

theorem be4_len (n : Nat) : (be4 n).length = 4 := by unfold be4; rfl
theorem saveL_len (L : List Pt) : (saveL L).length = (encI (numsP L)).length + 4 := by unfold saveL; rw [List.length_append, be4_len]
end Go.Proofs.YtedchegejalolaaGreatDoor


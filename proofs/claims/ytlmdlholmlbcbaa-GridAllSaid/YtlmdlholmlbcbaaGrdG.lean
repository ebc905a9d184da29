import Derived.Test.YtlmdlholmlbcbaaMGr
import Derived.Test.YtlmdlholmlbcbaaStep
/- The laws' own counted, gridSure. -/
namespace Go.Proofs.Ytlmdlholmlbcbaa
set_option linter.unusedVariables false
open Go.RowKit

theorem cntR_nil (X0 Y0 X1 Y1 : Int) : cntR [] X0 Y0 X1 Y1 = 0 := rfl
/-- Count of no points. -/
theorem gcount_none (a : Option Addr) (cap : Nat) (X0 Y0 X1 Y1 : Int) (w : World) (h : SlF ptL 3 w a 0 cap []) :
    Calls Try.prog 76 #[.slice a 0 cap, .agg #[.int .i64 X0, .int .i64 Y0, .int .i64 X1, .int .i64 Y1]] w fun e w' => e = .returned (.tuple #[.int .i64 0, .int .i64 0]) ∧ Below w.heap.size w w' := by
  have HA := Kp.mk (below_alloc (Nat.le_refl w.heap.size) (.cells #[.int .i64 X0, .int .i64 Y0, .int .i64 X1, .int .i64 Y1] 65))
  have CC := Kp.mk (gcheck_any a cap 0 [] _ (SlF.below h HA.out) (by omega) (by simp))
  clear h
  go_enter Try.func76, Try.ntmps76
  go_wp2_with fail
  refine CC.out.mono ?_
  rintro e w1 ⟨rfl, HB1⟩
  have HB2 := Kp.mk (below_step HA.out HB1.out)
  clear CC HB1
  go_wp2
  refine bodyPost_ret (v := .tuple #[.int .i64 0, .int .i64 0]) (by simp [results, Try.results76, go_sem]) rfl ?_
  exact ⟨rfl, HB2.out⟩
theorem gcount_all (a : Option Addr) (cap n : Nat) (L : List Pt) (X0 Y0 X1 Y1 : Int) (w : World) (h : SlF ptL 3 w a n cap L) (hn : n ≤ 150) (hN : ∀ p ∈ L, p.Near) :
    Calls Try.prog 76 #[.slice a n cap, .agg #[.int .i64 X0, .int .i64 Y0, .int .i64 X1, .int .i64 Y1]] w fun e w' => e = .returned (.tuple #[.int .i64 (cntR L X0 Y0 X1 Y1 : Nat), .int .i64 0]) ∧ Below w.heap.size w w' := by
  rcases Nat.eq_zero_or_pos n with h0 | h0
  · subst h0
    have hl := h.len ptL_len (by omega)
    obtain rfl : L = [] := List.length_eq_zero_iff.1 hl
    rw [cntR_nil]
    exact gcount_none a cap X0 Y0 X1 Y1 w h
  · exact gcount_any a cap n L X0 Y0 X1 Y1 w h h0 hn hN

set_option maxRecDepth 100000 in
set_option maxHeartbeats 2000000 in
theorem counted_any (a : Option Addr) (cap n : Nat) (L : List Pt) (X0 Y0 X1 Y1 : Int) (w : World) (h : SlF ptL 3 w a n cap L) (hn : n ≤ 150) (hN : ∀ p ∈ L, p.Near) :
    Calls Try.prog 39 #[.slice a n cap, .agg #[.int .i64 X0, .int .i64 Y0, .int .i64 X1, .int .i64 Y1]] w fun e w' => e = .returned (.int .i64 (cntR L X0 Y0 X1 Y1 : Nat)) ∧ Below w.heap.size w w' := by
  have HA := Kp.mk (below_alloc (Nat.le_refl w.heap.size) (.cells #[.int .i64 X0, .int .i64 Y0, .int .i64 X1, .int .i64 Y1] 65))
  have HBX := Kp.mk (Box.new w #[.int .i64 X0, .int .i64 Y0, .int .i64 X1, .int .i64 Y1] 65)
  have hsz := alloc_size w (.cells #[.int .i64 X0, .int .i64 Y0, .int .i64 X1, .int .i64 Y1] 65)
  have H1 := Kp.mk (SlF.below h HA.out)
  generalize hw1 : w.alloc (.cells #[.int .i64 X0, .int .i64 Y0, .int .i64 X1, .int .i64 Y1] 65) = w1 at *
  have HN := Kp.mk hN
  have HSZ := Kp.mk hsz
  have HD := Kp.mk (show Below w1.heap.size w1 w1.drew from (Below.refl _ _).drew)
  have HP := Kp.mk (SlF.below H1.out HD.out)
  have x0 : w1.cell? ⟨w.heap.size, 0, none⟩ = some (.int .i64 X0) := HBX.out.cell 0 rfl
  have x1 : w1.cell? ⟨w.heap.size, 1, none⟩ = some (.int .i64 Y0) := HBX.out.cell 1 rfl
  have x2 : w1.cell? ⟨w.heap.size, 2, none⟩ = some (.int .i64 X1) := HBX.out.cell 2 rfl
  have x3 : w1.cell? ⟨w.heap.size, 3, none⟩ = some (.int .i64 Y1) := HBX.out.cell 3 rfl
  have HKS := Kp.mk (fun (w' : World) (hb : Below w1.drew.heap.size w1.drew w') => show w'.cell? ⟨w.heap.size, 0, none⟩ = some (.int .i64 X0) ∧ w'.cell? ⟨w.heap.size, 1, none⟩ = some (.int .i64 Y0) ∧ w'.cell? ⟨w.heap.size, 2, none⟩ = some (.int .i64 X1) ∧ w'.cell? ⟨w.heap.size, 3, none⟩ = some (.int .i64 Y1) from by
    have hbx := (HBX.out.below HD.out).below hb
    exact ⟨hbx.cell 0 rfl, hbx.cell 1 rfl, hbx.cell 2 rfl, hbx.cell 3 rfl⟩)
  obtain ⟨c, hc⟩ : ∃ c, c = cntR L X0 Y0 X1 Y1 := ⟨_, rfl⟩
  rw [← hc]
  have HC := Kp.mk hc
  have hn' : n * 24 ≤ 140737488355328 := by omega
  clear h hN hsz hc H1
  go_enter Try.func39, Try.ntmps39
  go_wp2
  go_region_held3 (fun w' => w'.cell? ⟨w.heap.size, 0, none⟩ = some (.int .i64 X0) ∧ w'.cell? ⟨w.heap.size, 1, none⟩ = some (.int .i64 Y0) ∧ w'.cell? ⟨w.heap.size, 2, none⟩ = some (.int .i64 X1) ∧ w'.cell? ⟨w.heap.size, 3, none⟩ = some (.int .i64 Y1))
    (first | exact ⟨x0, x1, x2, x3⟩ | exact hS1 | exact hS2 | go_keep)
    ((first
      | (go_at_call 76; refine (gcount_all _ _ n L X0 Y0 X1 Y1 _ (own_slc hown) (by omega) HN.out).mono ?_; rintro e wc ⟨rfl, hbc⟩; have hS2 := HKS.out wc (hba.trans (hbc.mono hba.size)))
      | (refine step_cat0 tPts (by rfl) _ _ (by rfl) w1.drew.heap.size (by rfl) a n cap _ (by rfl) HP.out (flat_one ptL_one L) hn' (by decide) (Nat.le_refl _) ?_; intro sa cap' wq hown hgr; have hba : Below w1.drew.heap.size w1.drew wq := below_of_grown hgr (Nat.le_refl _) (fun k hk => by cases hk); have hS1 := HKS.out wq hba)))
  all_goals
    have HB5 := Kp.mk (below_step HA.out (HD.out.trans ((hba.trans (hbc.mono hba.size)).mono HD.out.size)))
    clear hS1 hS2 hba hbc hown hgr
    go_wp2
    go_ret
    exact ⟨by rw [HC.out]; rfl, HB5.out⟩

theorem sure_one : cntR [(⟨1, 2, 0⟩ : Pt)] 0 0 2 2 = 1 := by decide
set_option maxHeartbeats 1000000 in
theorem gridSure_any (w : World) : Calls Try.prog 38 #[] w fun e w' => e = .returned (.bool true) ∧ Below w.heap.size w w' := by
  have hb := below_alloc (Nat.le_refl w.heap.size) (.cells #[.int .i64 1, .int .i64 2, .int .i64 0] 41)
  have hs : SlF ptL 3 (w.alloc (.cells #[.int .i64 1, .int .i64 2, .int .i64 0] 41)) (some ⟨w.heap.size, 0, none⟩) 1 1 [(⟨1, 2, 0⟩ : Pt)] :=
    own_slc (World.ownsRow_lit (base := 0) w #[.int .i64 1, .int .i64 2, .int .i64 0] 1 (Nat.zero_le _) (by decide) rfl)
  have C := Kp.mk (counted_any (some ⟨w.heap.size, 0, none⟩) 1 1 [(⟨1, 2, 0⟩ : Pt)] 0 0 2 2 _ hs (by omega) (by
    intro p hp
    rw [List.mem_singleton.1 hp]
    unfold Pt.Near; simp))
  have HB := Kp.mk hb
  rw [sure_one] at C
  clear hb hs
  go_enter Try.func38, Try.ntmps38
  go_wp2_with fail
  refine C.out.mono ?_
  rintro e w1 ⟨rfl, hb1⟩
  have HB1 := Kp.mk (below_step HB.out hb1)
  clear hb1 C
  go_wp2
  go_ret
  exact ⟨rfl, HB1.out⟩

end Go.Proofs.Ytlmdlholmlbcbaa


/- klee.Depth: the walks. -/
import Derived.Test.YtlmdlholmlbcbaaKlA
import Derived.Test.YtlmdlholmlbcbaaShelf
namespace Go.Proofs.Ytlmdlholmlbcbaa
set_option linter.unusedVariables false
open Go.RowKit
open Pick (Rc Bd bd0 bds vB IsSweep DepI IsDepth sweep_x)

theorem maxOf_spec (D : List Int) (h : 0 < D.length) : (∀ j, j < D.length → D.getD j 0 ≤ Lib.maxOf D) ∧ ∃ j, j < D.length ∧ D.getD j 0 = Lib.maxOf D := by
  have key : ∀ k, 0 < k → k ≤ D.length → (∀ j, j < k → D.getD j 0 ≤ Lib.maxOf (D.take k)) ∧ ∃ j, j < k ∧ D.getD j 0 = Lib.maxOf (D.take k) := by
    intro k
    induction k with
    | zero => intro h; omega
    | succ k ih =>
      intro _ hk
      rcases Nat.eq_zero_or_pos k with rfl | hp
      · rw [Lib.maxOf_one]
        exact ⟨fun j hj => by rw [show j = 0 by omega]; exact Int.le_refl _, 0, by omega, rfl⟩
      · obtain ⟨h1, j, hj, h2⟩ := ih hp (by omega)
        rw [Lib.maxOf_step D k hp (by omega)]
        refine ⟨fun i hi => ?_, ?_⟩
        · rcases Nat.lt_or_ge i k with h3 | h3
          · have := h1 i h3; omega
          · rw [show i = k by omega]; omega
        · by_cases hm : D.getD k 0 ≤ Lib.maxOf (D.take k)
          · exact ⟨j, by omega, by omega⟩
          · exact ⟨k, by omega, by omega⟩
  have := key D.length h (Nat.le_refl _)
  rwa [List.take_of_length_le (Nat.le_refl _)] at this

set_option maxRecDepth 100000 in
set_option maxHeartbeats 1000000 in
theorem depth1_any (bp m : Nat) (da : Option Addr) (dc : Nat) (ya : Option Addr) (yc : Nat) (D : List Int) (wide v : Int) (w : World) (hD : SlI w da dc D) (hDl : D.length = m) (hm0 : 0 < m) (hm : m ≤ 100) (hb : Box w bp #[.int .i64 v] 3) :
    Calls Try.prog 72 #[.int .i64 wide, .slice ya m yc, .slice da m dc, .pointer (some ⟨bp, 0, none⟩)] w fun e w' => e = .returned (.tuple #[]) ∧ Kp (Box w' bp #[.int .i64 (max v (Lib.maxOf D))] 3) ∧ Kp (w.grownBy w' (some bp)) := by
  obtain ⟨gd, od, rfl⟩ := sl_some hD hDl hm0
  have CM := Kp.mk (fun x : Later w => (Try.slices_Max_int gd od m dc D x.val hm0 (by omega) (by omega) (fun j hj => sl_cell (hD.below x.le) hDl j (by omega))).mono (R' := fun e w' => e = .returned (.int .i64 (Lib.maxOf D)) ∧ Below x.val.heap.size x.val w') (fun e w' h => ⟨by rw [h.1, List.take_of_length_le (by omega)], by rw [h.2]; exact Below.refl _ _⟩))
  have HX := Kp.mk hb
  have l0 := later_cell (hb.cell 0 rfl)
  clear hD hb
  obtain ⟨M, hM⟩ : ∃ M, Lib.maxOf D = M := ⟨_, rfl⟩
  rw [hM] at CM ⊢
  clear hM
  go_enter Try.func72, Try.ntmps72
  go_wp2
  refine region_later_tail 4 (by kernel_rfl) (by kernel_rfl) ?_
  simp only [List.take_succ_cons, List.take_zero, List.drop_succ_cons, List.drop_zero]
  iterate 4 (go_big_quiet_step ((go_at_call 73; exact q_later (CM.out _))))
  refine wpQuiet_nil ?_
  rintro w' ⟨xl, rfl⟩
  have HX5 := Kp.mk (HX.out.below xl.le)
  have HB5 := Kp.mk (grown_of_below (r := some bp) xl.le)
  generalize xl.val = W5 at *
  have f5 := frozen_of_row _ bp 0 #[.int .i64 v] 3 HX5.out
  have c5 : W5.cell? ⟨bp, 0, none⟩ = some (.int .i64 v) := HX5.out.cell 0 rfl
  clear l0 CM
  go_wp2
  go_end0
  exact ⟨rfl, ⟨box_put (i := 0) HX5.out (.int .i64 (max v M))⟩, ⟨grown_trans HB5.out (grown_set W5 bp 0 _)⟩⟩

theorem depth_ops {L : List Rc} {lo : Int} {N : Nat} (bp : Nat) (hb : Pick.Boxed L lo N) (hlo : -100 ≤ lo ∧ lo ≤ 100) (hN : N ≤ 100) : SwOps 72 bp L (fun Y B i v => DepI L B i v ∧ (i = 0 → v = 0)) where
  zero Y B h := ⟨Pick.dep_zero L B, fun _ => rfl⟩
  one Y B v h h0 hv := by rw [hv.2 rfl]; exact ⟨Pick.dep_one h h0, fun h => by omega⟩
  skip Y B i v h h0 hi he hv := ⟨Pick.dep_skip hv.1 h0 he, fun h => by omega⟩
  call := enters_of Try.func72 (by kernel_rfl) rfl
  does Y B i v n D ya da yc dc W h h0 hi hlt hv hYl hn0 hn hDl hD hY hDs hny hnd hX := by
    have hx1 := sweep_x h hb i hi
    have hx2 := sweep_x h hb (i - 1) (by omega)
    refine (depth1_any bp n da dc ya yc D ((B.getD i bd0).x - (B.getD (i - 1) bd0).x) v W hDs hDl hn0 hn hX).mono ?_
    rintro e w' ⟨rfl, HB, HG⟩
    obtain ⟨m1, j, hj, m2⟩ := maxOf_spec D (by omega)
    refine ⟨rfl, _, ⟨Pick.dep_step h hv.1 h0 hi hlt (m := Lib.maxOf D) (fun k hk => ?_) ⟨j, by omega, ?_⟩, fun h => by omega⟩, HG, HB⟩
    · rw [← hD k (by omega)]; exact m1 k (by omega)
    · rw [← hD j (by omega)]; exact m2

set_option maxHeartbeats 1000000 in
theorem depth_any (a : Option Addr) (cap n : Nat) (L : List Rc) (lo : Int) (N : Nat) (w : World) (h : SlF rcL 4 w a n cap L) (hn : n ≤ 40) (hb : Pick.Boxed L lo N) (hlo : -100 ≤ lo ∧ lo ≤ 100) (hN : N ≤ 100) (ok : ∀ r ∈ L, r.x0 ≤ r.x1 ∧ r.y0 ≤ r.y1) :
    Calls Try.prog 34 #[.slice a n cap] w fun e w' => ∃ d, e = .returned (.tuple #[.int .i64 d, .int .i64 0]) ∧ Kp (IsDepth L d) ∧ Below w.heap.size w w' := by
  have HOK := Kp.mk (rc_ok hb hlo hN ok)
  have C1 := Kp.mk (kcheck_any a cap n L w h hn HOK.out)
  have H := Kp.mk h
  have HBX := Kp.mk hb
  clear h hb ok
  go_enter Try.func34, Try.ntmps34
  go_wp2_with fail
  refine C1.out.mono ?_
  rintro e w1 ⟨rfl, HB1⟩
  clear C1
  go_upto_region 5 with (fail)
  have HX := Kp.mk (Box.new w1 #[.int .i64 0] 3)
  have hal := below_alloc (Nat.le_refl w1.heap.size) (.cells #[.int .i64 0] 3)
  have C2 := Kp.mk (sweep_any 72 w1.heap.size _ a cap n L _ (SlF.below (SlF.below H.out HB1.out) hal) hn HOK.out HX.out (depth_ops w1.heap.size HBX.out hlo hN))
  have HBB := Kp.mk (HB1.out.trans (hal.mono HB1.out.size))
  have HSZ := Kp.mk HB1.out.size
  clear hal HX HB1
  obtain ⟨bp, hbp⟩ : ∃ bp, w1.heap.size = bp := ⟨_, rfl⟩
  obtain ⟨w2, hw2⟩ : ∃ w2, w1.alloc (.cells #[.int .i64 0] 3) = w2 := ⟨_, rfl⟩
  rw [hw2] at C2 HBB ⊢
  rw [hbp] at C2 HSZ
  simp only [hbp]
  clear hw2 hbp
  go_wp2_with fail
  refine C2.out.mono ?_
  rintro e w3 ⟨rfl, Y, B, v, HI, HX3, HG3⟩
  have HV := Kp.mk (Pick.dep_end HI.out.1 HI.out.2.1)
  have HB3 := Kp.mk (HBB.out.trans (below_of_grown HG3.out HBB.out.size (fun q hq => by cases hq; exact HSZ.out)))
  have c0 : w3.cell? ⟨bp, 0, none⟩ = some (.int .i64 v) := HX3.out.cell 0 rfl
  clear HI C2 HX3 HG3 HBB
  go_wp2
  exact bodyPost_ret (v := .tuple #[.int .i64 v, .int .i64 0]) (by simp [results, Try.results34, go_sem]) rfl ⟨v, rfl, HV, HB3.out⟩

end Go.Proofs.Ytlmdlholmlbcbaa

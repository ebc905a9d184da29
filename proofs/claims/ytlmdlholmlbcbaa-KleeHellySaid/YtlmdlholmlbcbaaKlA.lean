/- klee.Area: the walks. -/
import Derived.Test.YtlmdlholmlbcbaaKlS
import Derived.Test.YtlmdlholmlbcbaaTail
import Derived.Shelf.Abstract
namespace Go.Proofs.Ytlmdlholmlbcbaa
set_option linter.unusedVariables false
open Go.RowKit
open Pick (Rc Bd bd0 bds vB IsSweep sumN stripS accA sweep_x sweep_y tot)

def areaF (Y D : List Int) (j : Nat) : Int := if 0 < D.getD j 0 then Y.getD (j + 1) 0 - Y.getD j 0 else 0
theorem sumN_succ (n : Nat) (f : Nat → Int) : sumN (n + 1) f = sumN n f + f n := rfl
theorem sumN_bound {f : Nat → Int} {c : Int} : ∀ n : Nat, (∀ i, i < n → 0 ≤ f i ∧ f i ≤ c) → 0 ≤ sumN n f ∧ sumN n f ≤ n * c
  | 0, _ => by show (0 : Int) ≤ 0 ∧ (0 : Int) ≤ ((0 : Nat) : Int) * c; simp
  | n + 1, h => by
    have h1 := sumN_bound n (fun i hi => h i (by omega))
    have h2 := h n (by omega)
    rw [sumN_succ, Int.natCast_succ, Int.add_mul, Int.one_mul]
    omega
theorem sl_cell {w : World} {g o c n : Nat} {l : List Int} (h : SlI w (some ⟨g, o, none⟩) c l) (hl : l.length = n) (i : Nat) (hi : i < n) : w.cell? ⟨g, o + i, none⟩ = some (.int .i64 (l.getD i 0)) := by
  obtain ⟨b, off, e, hc⟩ := SlI.at h i (by omega)
  simp only [Option.some.injEq, Addr.mk.injEq, and_true] at e
  obtain ⟨rfl, rfl⟩ := e
  rw [getD_at _ _ (by omega)]
  exact hc
theorem sl_some {w : World} {a : Option Addr} {c n : Nat} {l : List Int} (h : SlI w a c l) (hl : l.length = n) (hn : 0 < n) : ∃ g o, a = some ⟨g, o, none⟩ := by
  obtain ⟨b, off, e, _⟩ := SlI.at h 0 (by omega)
  exact ⟨b, off, e⟩

theorem acc_bound {l : List Rc} {Y : List Int} {B : List Bd} {lo : Int} {n : Nat} (h : IsSweep l Y B) (hb : Pick.Boxed l lo n) (i : Nat) (hi : i ≤ B.length) : 0 ≤ accA l lo n B i ∧ accA l lo n B i ≤ n * n := by
  have hc : ∀ x, 0 ≤ Pick.colF l lo n x ∧ Pick.colF l lo n x ≤ n := fun x => by
    have := sumN_bound (f := fun j => if 0 < Pick.cov l x (lo + j) then (1 : Int) else 0) (c := 1) n (fun j _ => by split <;> omega)
    rw [Int.mul_one] at this
    exact this
  cases i with
  | zero => exact ⟨Int.le_refl _, Int.mul_nonneg (Int.natCast_nonneg _) (Int.natCast_nonneg _)⟩
  | succ i =>
    have hx := sweep_x h hb i (by omega)
    have h1 := sumN_bound (f := fun j : Nat => Pick.colF l lo n (lo + j)) (c := (n : Int)) ((B.getD i bd0).x - lo).toNat (fun j _ => hc _)
    refine ⟨h1.1, Int.le_trans h1.2 (Int.mul_le_mul_of_nonneg_right (by omega) (Int.natCast_nonneg _))⟩

attribute [local irreducible] sumN areaF
set_option maxRecDepth 100000 in
set_option maxHeartbeats 4000000 in
theorem area1_any (bp m : Nat) (ya da : Option Addr) (yc dc : Nat) (Y D : List Int) (wide v : Int) (w : World) (hY : SlI w ya yc Y) (hD : SlI w da dc D) (hYl : Y.length = m) (hDl : D.length = m) (hm0 : 0 < m) (hm : m ≤ 100) (hny : blk ya ≠ some bp) (hnd : blk da ≠ some bp)
    (hb : Box w bp #[.int .i64 v] 3) (hw : 0 ≤ wide ∧ wide ≤ 1000) (hv : 0 ≤ v ∧ v ≤ 1000000) (hyb : ∀ j, j < m → -1000 ≤ Y.getD j 0 ∧ Y.getD j 0 ≤ 1000) (hup : ∀ j, j + 1 < m → Y.getD j 0 < Y.getD (j + 1) 0) :
    Calls Try.prog 106 #[.int .i64 wide, .slice ya m yc, .slice da m dc, .pointer (some ⟨bp, 0, none⟩)] w fun e w' => e = .returned (.tuple #[]) ∧ Kp (Box w' bp #[.int .i64 (v + wide * sumN (m - 1) (areaF Y D))] 3) ∧ Kp (w.grownBy w' (some bp)) := by
  obtain ⟨gy, oy, rfl⟩ := sl_some hY hYl hm0
  obtain ⟨gd, od, rfl⟩ := sl_some hD hDl hm0
  have HY := Kp.mk hY
  have HD := Kp.mk hD
  have HX := Kp.mk hb
  have HYL := Kp.mk hYl
  have HDL := Kp.mk hDl
  have HYB := Kp.mk hyb
  have HUP := Kp.mk hup
  have HNY := Kp.mk hny
  have HND := Kp.mk hnd
  have HFB := Kp.mk (show ∀ j, j + 1 < m → 0 ≤ areaF Y D j ∧ areaF Y D j ≤ 2000 from fun j hj => by
    have h1 := hyb j (by omega)
    have h2 := hyb (j + 1) hj
    have h3 := hup j hj
    unfold areaF
    split <;> omega)
  clear hY hD hb hYl hDl hyb hup hny hnd
  go_enter Try.func106, Try.ntmps106
  go_wp2
  go_loopw [7] (fun i wr => ∃ q : Nat, q + 1 ≤ m ∧ i = .int .i64 ((q : Int) + 1) ∧ Kp (Box wr bp #[.int .i64 (v + wide * sumN q (areaF Y D))] 3) ∧ Kp (w.grownBy wr (some bp))) (fun i _ => m - (intOf i).toNat)
  case atStart => exact ⟨0, by omega, rfl, ⟨by unfold sumN; rw [Int.mul_zero, Int.add_zero]; exact HX.out⟩, ⟨grown_refl _ _⟩⟩
  case round =>
    obtain ⟨q, hq, rfl, HB, HG⟩ := hrel
    by_cases hlt : q + 1 < m
    · have k1 : wr.cell? ⟨gd, od + q, none⟩ = some (.int .i64 (D.getD q 0)) := sl_cell (SlC.keep HD.out HG.out (fun k hk => by cases hk; exact HND.out)) HDL.out q (by omega)
      have k2 : wr.cell? ⟨gy, oy + q, none⟩ = some (.int .i64 (Y.getD q 0)) := sl_cell (SlC.keep HY.out HG.out (fun k hk => by cases hk; exact HNY.out)) HYL.out q (by omega)
      have k3 : wr.cell? ⟨gy, oy + (q + 1), none⟩ = some (.int .i64 (Y.getD (q + 1) 0)) := sl_cell (SlC.keep HY.out HG.out (fun k hk => by cases hk; exact HNY.out)) HYL.out (q + 1) (by omega)
      have k4 : wr.cell? ⟨bp, 0, none⟩ = some (.int .i64 (v + wide * sumN q (areaF Y D))) := HB.out.cell 0 rfl
      have e1 : IntKind.i64.wrap ((q : Int) + 1 - 1) = (q : Int) := by rw [Int.add_sub_cancel]; exact IntWalk.i64_in _ (by omega)
      have e2 : IntKind.i64.wrap ((q : Int) + 1 + 1) = (q : Int) + 2 := by rw [show (q : Int) + 1 + 1 = (q : Int) + 2 by omega]; exact IntWalk.i64_in _ (by omega)
      have hb1 := HYB.out q (by omega)
      have hb2 := HYB.out (q + 1) (by omega)
      have hu := HUP.out q hlt
      have hs := sumN_bound (f := areaF Y D) (c := 2000) q (fun i hi => HFB.out i (by omega))
      have hs1 : wide * sumN q (areaF Y D) ≤ 1000 * 200000 := Int.le_trans (Int.mul_le_mul_of_nonneg_right hw.2 hs.1) (Int.mul_le_mul_of_nonneg_left (by omega) (by decide))
      have hs2 : 0 ≤ wide * sumN q (areaF Y D) := Int.mul_nonneg hw.1 hs.1
      have HFE := Kp.mk (show areaF Y D q = if 0 < D.getD q 0 then Y.getD (q + 1) 0 - Y.getD q 0 else 0 from by unfold areaF; rfl)
      have HSU := Kp.mk (sumN_succ q (areaF Y D))
      generalize Y.getD q 0 = y0 at *
      generalize Y.getD (q + 1) 0 = y1 at *
      generalize D.getD q 0 = dq at *
      obtain ⟨S, hS⟩ : ∃ S, wide * sumN q (areaF Y D) = S := ⟨_, rfl⟩
      have HS := Kp.mk hS
      rw [hS] at k4 hs1 hs2 HB
      clear hS hs
      by_cases hd : 0 < dq
      · have hm1 : wide * (y1 - y0) ≤ 1000 * 2000 := Int.le_trans (Int.mul_le_mul_of_nonneg_right hw.2 (by omega)) (Int.mul_le_mul_of_nonneg_left (by omega) (by decide))
        have hm2 : 0 ≤ wide * (y1 - y0) := Int.mul_nonneg hw.1 (by omega)
        have e3 : IntKind.i64.wrap (y1 - y0) = y1 - y0 := IntWalk.i64_in _ (by omega)
        have e4 : IntKind.i64.wrap (wide * (y1 - y0)) = wide * (y1 - y0) := IntWalk.i64_in _ (by omega)
        have e5 : IntKind.i64.wrap (v + S + wide * (y1 - y0)) = v + S + wide * (y1 - y0) := IntWalk.i64_in _ (by omega)
        have HNEW := Kp.mk (show v + S + wide * (y1 - y0) = v + wide * sumN (q + 1) (areaF Y D) from by
          rw [HSU.out, HFE.out, if_pos hd, Int.mul_add, HS.out, Int.add_assoc])
        have l1 := later_cell k2
        have l2 := later_cell k3
        have l3 := later_cell k4
        go_wp2
        clear k2 k3 k4 k1
        refine region_later_tail 14 (by kernel_rfl) (by kernel_rfl) ?_
        simp only [List.take_succ_cons, List.take_zero, List.drop_succ_cons, List.drop_zero]
        iterate 14 (go_big_quiet_step (fail))
        refine wpQuiet_nil ?_
        rintro w' ⟨xl, rfl⟩
        have HX5 := Kp.mk (HB.out.below xl.le)
        have HB5 := Kp.mk (grown_trans HG.out (grown_of_below xl.le))
        generalize xl.val = W5 at *
        have f5 := frozen_of_row _ bp 0 #[.int .i64 (v + S)] 3 HX5.out
        clear l1 l2 l3
        have HX6 := Kp.mk (box_put (i := 0) HX5.out (.int .i64 (v + S + wide * (y1 - y0))))
        have HX7 := Kp.mk (show Box (W5.setCell ⟨bp, 0, none⟩ (.int .i64 (v + S + wide * (y1 - y0)))) bp #[.int .i64 (v + wide * sumN (q + 1) (areaF Y D))] 3 from by rw [← HNEW.out]; exact HX6.out)
        have HG7 := Kp.mk (grown_trans HB5.out (grown_set W5 bp 0 (.int .i64 (v + S + wide * (y1 - y0)))))
        have c5 : W5.cell? ⟨bp, 0, none⟩ = some (.int .i64 (v + S)) := HX5.out.cell 0 rfl
        go_wp2
        go_roundw
        case rel => exact ⟨q + 1, by omega, by go_num, HX7, HG7⟩
        case measure => simp [intOf]; omega
      · have t1 : decide (dq > 0) = false := decide_eq_false hd
        have HNEW := Kp.mk (show v + S = v + wide * sumN (q + 1) (areaF Y D) from by
          rw [HSU.out, HFE.out, if_neg hd, Int.add_zero, HS.out])
        rw [HNEW.out] at HB
        clear k2 k3 k4 HNEW HS HSU HFE
        go_wp2
        go_roundw
        case rel => exact ⟨q + 1, by omega, by go_num, HB, HG⟩
        case measure => simp [intOf]; omega
    · obtain rfl : m = q + 1 := by omega
      go_wp2
      go_end0
      exact ⟨rfl, HB, HG⟩

attribute [local irreducible] accA
theorem area_ops {L : List Rc} {lo : Int} {N : Nat} (bp : Nat) (hb : Pick.Boxed L lo N) (hlo : -100 ≤ lo ∧ lo ≤ 100) (hN : N ≤ 100) : SwOps 106 bp L (fun Y B i v => v = accA L lo N B i) where
  zero Y B h := by unfold accA; rfl
  one Y B v h h0 hv := by rw [Pick.acc_one h hb h0, hv]; unfold accA; rfl
  skip Y B i v h h0 hi he hv := by rw [Pick.acc_step h hb i h0 hi, he, Int.sub_self, Int.zero_mul, Int.add_zero]; exact hv
  call := enters_of Try.func106 (by kernel_rfl) rfl
  does Y B i v n D ya da yc dc W h h0 hi hlt hv hYl hn0 hn hDl hD hY hDs hny hnd hX := by
    have hx1 := sweep_x h hb i hi
    have hx2 := sweep_x h hb (i - 1) (by omega)
    have hab := acc_bound h hb i (by omega)
    rw [← hv] at hab
    have hNN : (N : Int) * N ≤ 100 * 100 := Int.le_trans (Int.mul_le_mul_of_nonneg_right (by omega) (by omega)) (Int.mul_le_mul_of_nonneg_left (by omega) (by decide))
    refine (area1_any bp n ya da yc dc Y D ((B.getD i bd0).x - (B.getD (i - 1) bd0).x) v W hY hDs hYl hDl hn0 hn hny hnd hX (by omega) (by omega) (fun j hj => by have := sweep_y h hb j (by omega); omega) (fun j hj => h.ys j (by omega))).mono ?_
    rintro e w' ⟨rfl, HB, HG⟩
    refine ⟨rfl, _, ⟨?_⟩, HG, HB⟩
    rw [Pick.acc_step h hb i h0 hi, ← hv, hYl]
    congr 2
    refine Pick.sumN_congr _ (fun j hj => ?_)
    unfold areaF
    rw [hD j (by omega)]
    by_cases hp : 0 < vB (B.take i) (Y.getD j 0)
    · rw [if_pos hp, if_pos (decide_eq_true hp)]
    · rw [if_neg hp, if_neg (by rw [decide_eq_true_eq]; exact hp)]

theorem rc_ok {L : List Rc} {lo : Int} {N : Nat} (hb : Pick.Boxed L lo N) (hlo : -100 ≤ lo ∧ lo ≤ 100) (hN : N ≤ 100) (ok : ∀ r ∈ L, r.x0 ≤ r.x1 ∧ r.y0 ≤ r.y1) : ∀ p ∈ L, RcOk p := fun p hp => by
  have h1 := hb p hp
  have h2 := ok p hp
  exact ⟨by omega, by omega, by omega, by omega, h2.1, h2.2⟩

set_option maxHeartbeats 1000000 in
theorem area_any (a : Option Addr) (cap n : Nat) (L : List Rc) (lo : Int) (N : Nat) (w : World) (h : SlF rcL 4 w a n cap L) (hn : n ≤ 40) (hb : Pick.Boxed L lo N) (hlo : -100 ≤ lo ∧ lo ≤ 100) (hN : N ≤ 100) (ok : ∀ r ∈ L, r.x0 ≤ r.x1 ∧ r.y0 ≤ r.y1) :
    Calls Try.prog 69 #[.slice a n cap] w fun e w' => e = .returned (.tuple #[.int .i64 (tot L lo N), .int .i64 0]) ∧ Below w.heap.size w w' := by
  have HOK := Kp.mk (rc_ok hb hlo hN ok)
  have C1 := Kp.mk (kcheck_any a cap n L w h hn HOK.out)
  have H := Kp.mk h
  have HBX := Kp.mk hb
  clear h hb ok
  go_enter Try.func69, Try.ntmps69
  go_wp2_with fail
  refine C1.out.mono ?_
  rintro e w1 ⟨rfl, HB1⟩
  clear C1
  go_upto_region 5 with (fail)
  have HX := Kp.mk (Box.new w1 #[.int .i64 0] 3)
  have hal := below_alloc (Nat.le_refl w1.heap.size) (.cells #[.int .i64 0] 3)
  have C2 := Kp.mk (sweep_any 106 w1.heap.size _ a cap n L _ (SlF.below (SlF.below H.out HB1.out) hal) hn HOK.out HX.out (area_ops w1.heap.size HBX.out hlo hN))
  have HBB := Kp.mk (HB1.out.trans (hal.mono HB1.out.size))
  have HSZ := Kp.mk HB1.out.size
  clear hal HX HB1
  obtain ⟨bp, hbp⟩ : ∃ bp, w1.heap.size = bp := ⟨_, rfl⟩
  obtain ⟨w2, hw2⟩ : ∃ w2, w1.alloc (.cells #[.int .i64 0] 3) = w2 := ⟨_, rfl⟩
  rw [hw2] at C2 HBB ⊢
  rw [hbp] at C2 HSZ
  simp only [hbp]
  clear hw2 hbp
  go_wp2_with fail
  refine C2.out.mono ?_
  rintro e w3 ⟨rfl, Y, B, v, HI, HX3, HG3⟩
  obtain ⟨hI, hv⟩ := HI.out
  rw [Pick.acc_end hI HBX.out] at hv
  have HV := Kp.mk hv
  have HB3 := Kp.mk (HBB.out.trans (below_of_grown HG3.out HBB.out.size (fun q hq => by cases hq; exact HSZ.out)))
  have c0 : w3.cell? ⟨bp, 0, none⟩ = some (.int .i64 v) := HX3.out.cell 0 rfl
  clear hv hI HI C2 HX3 HG3 HBB
  go_wp2
  exact bodyPost_ret (v := .tuple #[.int .i64 v, .int .i64 0]) (by simp [results, Try.results69, go_sem]) rfl ⟨by rw [← HV.out], HB3.out⟩

end Go.Proofs.Ytlmdlholmlbcbaa

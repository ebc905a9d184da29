/- Package query: Eval: the walk. -/
import Derived.Test.YteeeikninigeoaaDoorQryC
import Derived.Test.YteeeikninigeoaaDoorQryM
namespace Go.Proofs.YteeeikninigeoaaDoor
set_option linter.unusedVariables false
open Go.RowKit

/-- Which points are meant, by their places. -/
def evalL (f : Nat → Bool) (n : Nat) : List Nat := (List.range n).filter f
theorem evalL_succ (f : Nat → Bool) (n : Nat) : evalL f (n + 1) = evalL f n ++ (if f n = true then [n] else []) := by
  unfold evalL
  rw [List.range_succ, List.filter_append]
  congr 1
  cases h : f n <;> simp [h]
theorem evalL_len (f : Nat → Bool) (n : Nat) : (evalL f n).length ≤ n := by
  have := List.length_filter_le f (List.range n)
  rw [List.length_range] at this; exact this

set_option maxRecDepth 100000 in
set_option maxHeartbeats 8000000 in
theorem qeval_any (pa : Option Addr) (pc np : Nat) (L : List Pt) (hnp : np ≤ 150) (hN : ∀ p ∈ L, p.Near) (x : Ex) (v : ExV) (w : World) (h : IsEx w x v) (hp : SlF ptL 3 w pa np pc L) (hs : x.small) (hd : x.dep ≤ 8) (hl : x.txt.length ≤ 400) (hT : Tab w) :
    Calls Tryd.prog 18 #[.agg (exL v).toArray, .slice pa np pc] w fun e w' => ∃ ra m rc, e = .returned (.tuple #[.slice ra m rc, .int .i64 0]) ∧ Kp ((evalL (x.sem L) np).length = m) ∧ Kp (w'.ownsRow w.heap.size 3 1 (.slice ra m rc) m (ints ((evalL (x.sem L) np).map Int.ofNat))) ∧ Kp (Below w.heap.size w w') := by
  have HC := Kp.mk (fun (W : World) (hW : Below w.heap.size w W) => qcheck_any x v W (h.below hW) hs hd hl (hT.below hW))
  have HM := Kp.mk (fun (W : World) (hW : Below w.heap.size w W) => meant_any pa pc np L hnp hN x v W (h.below hW) (SlF.below hp hW))
  have HG := Kp.mk (fun (W : World) (hW : Below w.heap.size w W) => gcheck_any pa pc np L W (SlF.below hp hW) hnp hN)
  clear h hs hd hl hT hp
  obtain ⟨k, a, b, c, d, y, sa, n, cap⟩ := v
  show Calls Tryd.prog 18 #[.agg #[.int .i64 k, .int .i64 a, .int .i64 b, .int .i64 c, .int .i64 d, .int .i64 y, .slice sa n cap], .slice pa np pc] w _
  generalize x.sem L = f at *
  unfold MeantRet at HM
  have HA := Kp.mk (below_alloc (Nat.le_refl w.heap.size) (.cells #[.int .i64 k, .int .i64 a, .int .i64 b, .int .i64 c, .int .i64 d, .int .i64 y, .slice sa n cap] 27))
  have HBX := Kp.mk (Box.new w #[.int .i64 k, .int .i64 a, .int .i64 b, .int .i64 c, .int .i64 d, .int .i64 y, .slice sa n cap] 27)
  obtain ⟨bz, hbz⟩ : ∃ bz, w.heap.size = bz := ⟨_, rfl⟩
  obtain ⟨w1, hw1⟩ : ∃ w1, w.alloc (.cells #[.int .i64 k, .int .i64 a, .int .i64 b, .int .i64 c, .int .i64 d, .int .i64 y, .slice sa n cap] 27) = w1 := ⟨_, rfl⟩
  rw [hw1] at HA HBX
  rw [hbz] at HBX
  have CC := Kp.mk (HC.out w1 HA.out)
  have z0 : w1.cell? ⟨bz, 0, none⟩ = some (.int .i64 k) := HBX.out.cell 0 rfl
  have z1 : w1.cell? ⟨bz, 1, none⟩ = some (.int .i64 a) := HBX.out.cell 1 rfl
  have z2 : w1.cell? ⟨bz, 2, none⟩ = some (.int .i64 b) := HBX.out.cell 2 rfl
  have z3 : w1.cell? ⟨bz, 3, none⟩ = some (.int .i64 c) := HBX.out.cell 3 rfl
  have z4 : w1.cell? ⟨bz, 4, none⟩ = some (.int .i64 d) := HBX.out.cell 4 rfl
  have z5 : w1.cell? ⟨bz, 5, none⟩ = some (.int .i64 y) := HBX.out.cell 5 rfl
  have z6 : w1.cell? ⟨bz, 6, none⟩ = some (.slice sa n cap) := HBX.out.cell 6 rfl
  have HBZ := Kp.mk hbz
  go_enter Tryd.func18, Tryd.ntmps18
  go_upto_region 1 with (fail)
  try rw [hw1]
  try simp only [hbz]
  clear hw1 hbz HC
  go_wp2_with fail
  refine CC.out.mono ?_
  rintro e w2 ⟨rfl, hb2⟩
  have HB2 := Kp.mk (below_step HA.out hb2)
  have HX2 := Kp.mk (HBX.out.below hb2)
  have CG := Kp.mk (HG.out w2 HB2.out)
  clear z0 z1 z2 z3 z4 z5 z6 hb2 CC HBX HA HG
  go_wp2_with fail
  refine CG.out.mono ?_
  rintro e w3 ⟨rfl, hb3⟩
  have HB3 := Kp.mk (below_step HB2.out hb3.out)
  have hbx := HX2.out.below hb3.out
  have y0 : w3.cell? ⟨bz, 0, none⟩ = some (.int .i64 k) := hbx.cell 0 rfl
  have y1 : w3.cell? ⟨bz, 1, none⟩ = some (.int .i64 a) := hbx.cell 1 rfl
  have y2 : w3.cell? ⟨bz, 2, none⟩ = some (.int .i64 b) := hbx.cell 2 rfl
  have y3 : w3.cell? ⟨bz, 3, none⟩ = some (.int .i64 c) := hbx.cell 3 rfl
  have y4 : w3.cell? ⟨bz, 4, none⟩ = some (.int .i64 d) := hbx.cell 4 rfl
  have y5 : w3.cell? ⟨bz, 5, none⟩ = some (.int .i64 y) := hbx.cell 5 rfl
  have y6 : w3.cell? ⟨bz, 6, none⟩ = some (.slice sa n cap) := hbx.cell 6 rfl
  have CM := Kp.mk (HM.out w3 HB3.out)
  clear hbx hb3 CG HX2 HB2 HM
  go_wp2_with fail
  refine CM.out.mono ?_
  rintro e w4 ⟨ta, tc, T, rfl, HTD, HTO, HB4⟩
  have HBW4 := Kp.mk (below_step HB3.out HB4.out)
  have htn : np ≤ tc := (own_slc HTO.out).le
  clear y0 y1 y2 y3 y4 y5 y6 CM HB4 HB3
  obtain ⟨wo, rfl⟩ : ∃ wo : World, wo = w4 := ⟨_, rfl⟩
  go_wp2
  go_loopw [8, 25] (fun v8 v25 wr => ∃ (i m : Nat) (ra : Option Addr) (rc : Nat), i ≤ np ∧ m ≤ i ∧ v25 = .int .i64 i ∧ v8 = .slice ra m rc ∧ Kp ((evalL f i).length = m) ∧ Kp (wr.ownsRow wo.heap.size 3 1 (.slice ra m rc) m (ints ((evalL f i).map Int.ofNat))) ∧ Kp (Below wo.heap.size wo wr)) (fun _ v25 _ => np - (intOf v25).toNat)
  case atStart => exact ⟨0, 0, none, 0, Nat.zero_le _, Nat.le_refl _, rfl, rfl, ⟨rfl⟩, ⟨World.ownsRow_nil _ _ _ _⟩, ⟨Below.refl _ _⟩⟩
  case round =>
    obtain ⟨i, m, ra, rc, hi, hmi, rfl, rfl, HLM, HO, HB⟩ := hrel
    by_cases hin : i < np
    · have hiz : (i : Int) < np := by omega
      obtain ⟨tb, rfl, htb, _⟩ := own_some HTO.out (by omega)
      have t0 := tells_cell HTD.out (own_below HTO.out HB.out) hin
      have HES := Kp.mk (evalL_succ f i)
      have hsz : wo.heap.size ≤ wr.heap.size := HB.out.size
      cases hf : f i with
      | true =>
        rw [hf] at t0
        have HE2 := Kp.mk (show evalL f (i + 1) = evalL f i ++ [i] by rw [HES.out, hf]; rfl)
        have HLM2 := Kp.mk (show (evalL f (i + 1)).length = m + 1 by rw [HE2.out, List.length_append, HLM.out]; rfl)
        clear hf HES
        go_wp2_with (at_builtin; refine wpList_push tInts (by rfl) _ _ (by rfl) wo.heap.size ra m rc _ (by rfl) HO.out 1 1 _ (by rfl) (by rfl) ?d1 (by decide) ?d2 (by decide) hsz ?d4)
        case d1 => simp [Value.oneCell']
        case d2 => omega
        case d4 =>
          intro sa2 sc2 w6 ho6 hb6
          have HO6 := Kp.mk (show w6.ownsRow wo.heap.size 3 1 (.slice sa2 (m + 1) sc2) (m + 1) (ints ((evalL f (i + 1)).map Int.ofNat)) from by rw [HE2.out, List.map_append, ints_append]; exact ho6)
          have HB6 := Kp.mk (HB.out.trans hb6)
          clear ho6 hb6 t0
          go_wp2
          go_roundw
          case rel => exact ⟨i + 1, m + 1, sa2, sc2, by omega, by omega, by go_num, rfl, HLM2, HO6, HB6⟩
          case measure => simp [intOf]; omega
      | false =>
        rw [hf] at t0
        have HE2 := Kp.mk (show evalL f (i + 1) = evalL f i by rw [HES.out, hf]; simp)
        have HLM2 := Kp.mk (show (evalL f (i + 1)).length = m by rw [HE2.out, HLM.out])
        rw [← HE2.out] at HO
        clear hf HES HE2
        go_wp2
        go_roundw
        case rel => exact ⟨i + 1, m, ra, rc, by omega, by omega, by go_num, rfl, HLM2, HO, HB⟩
        case measure => simp [intOf]; omega
    · obtain rfl : np = i := by omega
      have HBE := Kp.mk (below_step HBW4.out HB.out)
      have HZ := Kp.mk HBW4.out.size
      go_wp2
      refine bodyPost_ret (v := .tuple #[.slice ra m rc, .int .i64 0]) (by simp [results, Tryd.results18, go_sem]) rfl ?_
      exact ⟨ra, m, rc, rfl, HLM, ⟨own_base HO.out HZ.out⟩, HBE⟩

end Go.Proofs.YteeeikninigeoaaDoor

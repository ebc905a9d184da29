/- The laws' own meantBy: the walk. -/
import Derived.Test.YteeeikninigeoaaDoorQryE
import Derived.Test.YteeeikninigeoaaDoorStep
namespace Go.Proofs.YteeeikninigeoaaDoor
set_option linter.unusedVariables false
open Go.RowKit

theorem evalL_lt (f : Nat → Bool) (n i : Nat) (h : i < (evalL f n).length) : (evalL f n).getD i 0 < n ∧ f ((evalL f n).getD i 0) = true := by
  rw [getD_at _ _ h]
  have := List.getElem_mem h
  unfold evalL at this
  rw [List.mem_filter, List.mem_range] at this
  exact this
theorem evalL_up (f : Nat → Bool) (n i : Nat) (h : i + 1 < (evalL f n).length) : (evalL f n).getD i 0 < (evalL f n).getD (i + 1) 0 := by
  have hp : (evalL f n).Pairwise (· < ·) := List.pairwise_lt_range.filter _
  rw [getD_at _ _ h, getD_at _ _ (show i < (evalL f n).length by omega)]
  exact List.pairwise_iff_getElem.1 hp i (i + 1) (by omega) h (by omega)
theorem evalL_tells {f : Nat → Bool} {n : Nat} {T : List Bool} (h : Tells (fun p => decide (p ∈ evalL f n)) n T) : Tells f n T :=
  h.congr fun p hp => by
    cases hf : f p with
    | true => exact decide_eq_true (by unfold evalL; rw [List.mem_filter, List.mem_range]; exact ⟨hp, hf⟩)
    | false => exact decide_eq_false (fun hm => by unfold evalL at hm; rw [List.mem_filter] at hm; rw [hf] at hm; exact absurd hm.2 (by simp))
theorem evalL_one : evalL ((Ex.hv 1).sem [(⟨0, 0, 1⟩ : Pt)]) 1 = [0] := by decide

set_option maxRecDepth 100000 in
set_option maxHeartbeats 8000000 in
theorem meantBy_any (pa : Option Addr) (pc np : Nat) (L : List Pt) (hnp : np ≤ 150) (hN : ∀ p ∈ L, p.Near) (x : Ex) (v : ExV) (w : World) (h : IsEx w x v) (hp : SlF ptL 3 w pa np pc L) (hs : x.small) (hd : x.dep ≤ 8) (hl : x.txt.length ≤ 400) (hT : Tab w) :
    Calls Tryd.prog 12 #[.agg (exL v).toArray, .slice pa np pc] w fun e w' => ∃ ra rc T, e = .returned (.tuple #[.slice ra np rc, .bool true]) ∧ Kp (Tells (x.sem L) np T) ∧ Kp (w'.ownsRow w.heap.size 4 1 (.slice ra np rc) np (bls T)) ∧ Kp (Below w.heap.size w w') := by
  have HE := Kp.mk (fun (W : World) (hW : Below w.heap.size w W) (xa : Option Addr) (xc : Nat) (hx : SlF ptL 3 W xa np xc L) => qeval_any xa xc np L hnp hN x v W (h.below hW) hx hs hd hl (hT.below hW))
  have HP := Kp.mk hp
  have HTB := Kp.mk hT
  clear h hs hd hl hT hp
  obtain ⟨k, a, b, c, d, y, sa, n, cap⟩ := v
  show Calls Tryd.prog 12 #[.agg #[.int .i64 k, .int .i64 a, .int .i64 b, .int .i64 c, .int .i64 d, .int .i64 y, .slice sa n cap], .slice pa np pc] w _
  generalize x.sem L = f at *
  have HA := Kp.mk (below_alloc (Nat.le_refl w.heap.size) (.cells #[.int .i64 k, .int .i64 a, .int .i64 b, .int .i64 c, .int .i64 d, .int .i64 y, .slice sa n cap] 27))
  have HBX := Kp.mk (Box.new w #[.int .i64 k, .int .i64 a, .int .i64 b, .int .i64 c, .int .i64 d, .int .i64 y, .slice sa n cap] 27)
  obtain ⟨bz, hbz⟩ : ∃ bz, w.heap.size = bz := ⟨_, rfl⟩
  obtain ⟨w1, hw1⟩ : ∃ w1, w.alloc (.cells #[.int .i64 k, .int .i64 a, .int .i64 b, .int .i64 c, .int .i64 d, .int .i64 y, .slice sa n cap] 27) = w1 := ⟨_, rfl⟩
  rw [hw1] at HA HBX
  rw [hbz] at HBX
  have HP1 := Kp.mk (SlF.below HP.out HA.out)
  have HBZ := Kp.mk hbz
  have hD0 : Below w1.heap.size w1 w1.drew := (Below.refl _ _).drew
  have HKS := Kp.mk (fun (W : World) (hW : Below w1.heap.size w1 W) => show W.cell? ⟨bz, 0, none⟩ = some (.int .i64 k) ∧ W.cell? ⟨bz, 1, none⟩ = some (.int .i64 a) ∧ W.cell? ⟨bz, 2, none⟩ = some (.int .i64 b) ∧ W.cell? ⟨bz, 3, none⟩ = some (.int .i64 c) ∧ W.cell? ⟨bz, 4, none⟩ = some (.int .i64 d) ∧ W.cell? ⟨bz, 5, none⟩ = some (.int .i64 y) ∧ W.cell? ⟨bz, 6, none⟩ = some (.slice sa n cap) from by
    have hbx := HBX.out.below hW
    exact ⟨hbx.cell 0 rfl, hbx.cell 1 rfl, hbx.cell 2 rfl, hbx.cell 3 rfl, hbx.cell 4 rfl, hbx.cell 5 rfl, hbx.cell 6 rfl⟩)
  have hS0 := HKS.out w1 (Below.refl _ _)
  have hn' : np * 24 ≤ 140737488355328 := by omega
  go_enter Tryd.func12, Tryd.ntmps12
  go_upto_region 1 with (fail)
  try rw [hw1]
  try simp only [hbz]
  clear hw1 hbz HBX
  go_region_held3 (fun W => W.cell? ⟨bz, 0, none⟩ = some (.int .i64 k) ∧ W.cell? ⟨bz, 1, none⟩ = some (.int .i64 a) ∧ W.cell? ⟨bz, 2, none⟩ = some (.int .i64 b) ∧ W.cell? ⟨bz, 3, none⟩ = some (.int .i64 c) ∧ W.cell? ⟨bz, 4, none⟩ = some (.int .i64 d) ∧ W.cell? ⟨bz, 5, none⟩ = some (.int .i64 y) ∧ W.cell? ⟨bz, 6, none⟩ = some (.slice sa n cap))
    (first | exact hS0 | exact hS4 | exact hS5 | go_keep)
    ((first
      | (refine step_cat0 tPts (by rfl) _ _ (by rfl) w1.heap.size (by rfl) pa np pc _ (by rfl) (SlF.below HP1.out hD0) (flat_one ptL_one _) hn' (by decide) (Nat.le_refl _) ?_; intro xa xc w4 hown4 hgr4; have hb4 : Below w1.heap.size w1 w4 := hD0.trans (below_of_grown hgr4 (Nat.le_refl _) (fun q hq => by cases hq)); have hS4 := HKS.out w4 hb4)
      | (go_at_call 18; refine (HE.out w4 (below_step HA.out hb4) xa xc (own_slc hown4)).mono ?_; rintro e w5 ⟨ra, m, rc, rfl, HLM, HRO, HB5⟩; have hb5 := below_step hb4 HB5.out; have hS5 := HKS.out w5 hb5)
      | fail))
  have HB5' := Kp.mk hb5
  have HBW5 := Kp.mk (below_step HA.out hb5)
  have HTB5 := Kp.mk (HTB.out.below HBW5.out)
  have HMN := Kp.mk (show m ≤ np from by rw [← HLM.out]; exact Nat.le_trans (List.length_filter_le _ _) (by rw [List.length_range]; exact Nat.le_refl _))
  have hmr : m ≤ rc := (own_slc HRO.out).le
  clear hown4 hgr4 hb4 hS4 hb5 hS5 hS0 HKS hD0 HP1 HB5 HE HA HP hn'
  go_wp2_with (first
    | (at_make; refine wpList_mk1 tBools (by rfl) rfl _ _ rfl w5.heap.size np rfl rfl ?m1 (by decide) (Nat.le_refl _) ?m2)
    | fail)
  case m1 => omega
  case m2 =>
    intro ta tc w6 hT6 hb6
    have HB6 := Kp.mk hb6
    have HT0 := Kp.mk (show Tells (fun p => decide (p ∈ (evalL f np).take 0)) np (List.replicate np false) from (tells_start np).congr fun p hp => by simp)
    have HTO := Kp.mk (show w6.ownsRow w5.heap.size 4 1 (.slice ta np tc) np (bls (List.replicate np false)) from by have h := hT6; rwa [show List.replicate np (Value.bool false) = bls (List.replicate np false) by simp [bls]] at h)
    generalize List.replicate np false = T0 at *
    have HRC := Kp.mk (fun (W : World) (hW : Below w5.heap.size w5 W) (i : Nat) (hi : i < m) => show ∃ rb ro, ra = some ⟨rb, ro, none⟩ ∧ W.cell? ⟨rb, ro + i, none⟩ = some (.int .i64 (((evalL f np).getD i 0 : Nat) : Int)) from by
      have h1 := own_sl_len (own_below HRO.out hW) (by rw [List.length_map]; exact HLM.out)
      obtain ⟨rb, ro, e, cr⟩ := h1.at i (by rw [List.length_map, HLM.out]; exact hi)
      rw [List.getElem_map, ← getD_at (evalL f np) 0 (by rw [HLM.out]; exact hi)] at cr
      exact ⟨rb, ro, e, cr⟩)
    have HLT := Kp.mk (fun i (hi : i < m) => evalL_lt f np i (by rw [HLM.out]; exact hi))
    have HUP := Kp.mk (fun i (hi : i + 1 < m) => evalL_up f np i (by rw [HLM.out]; exact hi))
    have HTE := Kp.mk (fun T (h : Tells (fun p => decide (p ∈ evalL f np)) np T) => evalL_tells h)
    have htn : np ≤ tc := (own_slc HTO.out).le
    have hmn := HMN.out
    clear hT6 hb6 HRO
    generalize evalL f np = O at *
    go_wp2
    go_loopw [9] (fun v9 wr => ∃ (i : Nat) (T : List Bool), i ≤ m ∧ v9 = .int .i64 i ∧ Kp (Tells (fun p => decide (p ∈ O.take i)) np T) ∧ Kp (wr.ownsRow w5.heap.size 4 1 (.slice ta np tc) np (bls T)) ∧ Kp (Below w5.heap.size w5 wr)) (fun v9 _ => m - (intOf v9).toNat)
    case atStart => exact ⟨0, T0, Nat.zero_le _, rfl, HT0, HTO, HB6⟩
    case round =>
      clear HT0 HTO HB6
      obtain ⟨i, T, hi, rfl, HTD, HTO, HB⟩ := hrel
      by_cases him : i < m
      · have hiz : (i : Int) < m := by omega
        obtain ⟨hp, _⟩ := HLT.out i him
        obtain ⟨rb, ro, rfl, r0⟩ := HRC.out wr HB.out i him
        obtain ⟨tb, rfl, htb, _⟩ := own_some HTO.out (by omega)
        have t0 := tells_cell HTD.out HTO.out hp
        have HTS := Kp.mk (tells_mark HTD.out (by rw [HLM.out]; exact him) hp)
        have HRN := Kp.mk (fun W hW => HRC.out W hW i him)
        have hpz : ((O.getD i 0 : Nat) : Int) < np := by omega
        have q1 : decide (((O.getD i 0 : Nat) : Int) < 0) = false := decide_eq_false (by omega)
        have q2 : decide (((O.getD i 0 : Nat) : Int) ≥ np) = false := decide_eq_false (by omega)
        have q7 : ¬ np ≤ O.getD i 0 := by omega
        rcases i with _ | i
        · have hz0 : ((0 : Nat) : Int) = 0 := rfl
          rw [hz0] at hiz ⊢
          have g0 : decide ((0 : Int) > 0) = false := rfl
          generalize O.getD 0 0 = p at *
          have r0' : wr.cell? ⟨rb, ro, none⟩ = some (.int .i64 (p : Int)) := r0
          clear hz0
          go_wp2
          go_quiet (fail)
          have HB9 := Kp.mk (HB.out.trans (drewN_below (w := wr) nq))
          have HTO9 := Kp.mk (own_below HTO.out (drewN_below (w := wr) nq))
          have t9 : (wr.drewN nq).cell? ⟨tb, p, none⟩ = some _ := t0
          have r9 : (wr.drewN nq).cell? ⟨rb, ro + 0, none⟩ = some (.int .i64 (p : Int)) := r0
          have r9' : (wr.drewN nq).cell? ⟨rb, ro, none⟩ = some (.int .i64 (p : Int)) := r0
          have f9 := HTO9.out.frozenAt p
          have HTO10 := Kp.mk (show ((wr.drewN nq).setCell ⟨tb, p, none⟩ (.bool true)).ownsRow w5.heap.size 4 1 (.slice (some ⟨tb, 0, none⟩) np tc) np (bls (T.set p true)) from by
            rw [← bls_set]; exact (HTO9.out.stored p (.bool true)).1)
          have HB10 := Kp.mk (HB9.out.trans (below_of_grown (grown_set (wr.drewN nq) tb p (.bool true)) HB9.out.size (fun q hq => by cases hq; exact htb)))
          clear HB9 HTO9 HTO HB t0 r0
          generalize wr.drewN nq = w9 at *
          go_wp2
          go_roundw
          case rel => exact ⟨1, T.set p true, by omega, by go_num, HTS, HTO10, HB10⟩
          case measure => simp [intOf]; omega
        · have g0 : decide (((i + 1 : Nat) : Int) > 0) = true := decide_eq_true (by omega)
          have hup := HUP.out i him
          obtain ⟨rb', ro', eu, r1⟩ := HRC.out wr HB.out i (by omega)
          simp only [Option.some.injEq, Addr.mk.injEq, and_true] at eu
          obtain ⟨rfl, rfl⟩ := eu
          have ew : IntKind.i64.wrap (((i + 1 : Nat) : Int) - 1) = (i : Int) := by rw [show ((i + 1 : Nat) : Int) - 1 = (i : Int) by omega]; exact IntWalk.i64_in _ (by omega)
          have ew' : IntKind.i64.wrap ((i : Int) + 1 - 1) = (i : Int) := by rw [show (i : Int) + 1 - 1 = (i : Int) by omega]; exact IntWalk.i64_in _ (by omega)
          have hiz1 : (i : Int) < m := by omega
          have q5 : decide (((O.getD i 0 : Nat) : Int) ≥ ((O.getD (i + 1) 0 : Nat) : Int)) = false := decide_eq_false (by omega)
          have q6 : ¬ O.getD (i + 1) 0 ≤ O.getD i 0 := by omega
          generalize O.getD (i + 1) 0 = p at *
          generalize O.getD i 0 = p' at *
          go_wp2
          go_quiet (fail)
          have HB9 := Kp.mk (HB.out.trans (drewN_below (w := wr) nq))
          have HTO9 := Kp.mk (own_below HTO.out (drewN_below (w := wr) nq))
          have t9 : (wr.drewN nq).cell? ⟨tb, p, none⟩ = some _ := t0
          have r9 : (wr.drewN nq).cell? ⟨rb, ro + (i + 1), none⟩ = some (.int .i64 (p : Int)) := r0
          have f9 := HTO9.out.frozenAt p
          have HTO10 := Kp.mk (show ((wr.drewN nq).setCell ⟨tb, p, none⟩ (.bool true)).ownsRow w5.heap.size 4 1 (.slice (some ⟨tb, 0, none⟩) np tc) np (bls (T.set p true)) from by
            rw [← bls_set]; exact (HTO9.out.stored p (.bool true)).1)
          have HB10 := Kp.mk (HB9.out.trans (below_of_grown (grown_set (wr.drewN nq) tb p (.bool true)) HB9.out.size (fun q hq => by cases hq; exact htb)))
          clear HB9 HTO9 HTO HB t0 r0 r1
          generalize wr.drewN nq = w9 at *
          go_wp2
          go_roundw
          case rel => exact ⟨i + 1 + 1, T.set p true, by omega, by go_num, HTS, HTO10, HB10⟩
          case measure => simp [intOf]; omega
      · obtain rfl : m = i := by omega
        have HTF := Kp.mk (show Tells f np T from by
          have h := HTD.out
          rw [List.take_of_length_le (by rw [HLM.out]; exact Nat.le_refl _)] at h
          exact HTE.out T h)
        have hbE := below_alloc (Nat.le_refl wr.heap.size) (.cells #[.int .i64 0, .int .i64 0, .int .i64 1] 43)
        have hsE : SlF ptL 3 (wr.alloc (.cells #[.int .i64 0, .int .i64 0, .int .i64 1] 43)) (some ⟨wr.heap.size, 0, none⟩) 1 1 [(⟨0, 0, 1⟩ : Pt)] :=
          own_slc (World.ownsRow_lit (base := 0) wr #[.int .i64 0, .int .i64 0, .int .i64 1] 1 (Nat.zero_le _) (by decide) rfl)
        have HB7 := Kp.mk (HB.out.trans (hbE.mono HB.out.size))
        have CE := Kp.mk (qeval_any (some ⟨wr.heap.size, 0, none⟩) 1 1 [(⟨0, 0, 1⟩ : Pt)] (by omega) (fun p hp => by rw [List.mem_singleton.1 hp]; unfold Pt.Near; decide) (.hv 1) ⟨2, 0, 0, 0, 0, 1, none, 0, 0⟩ _ rfl hsE (by unfold Ex.small; omega) (by simp only [Ex.dep]; omega) (Ex.txt_3 (by unfold Ex.small; omega) (by simp only [Ex.dep]; omega)) (HTB5.out.below HB7.out))
        rw [evalL_one] at CE
        have HTO7 := Kp.mk (own_below HTO.out hbE)
        clear hbE hsE HTO HB
        go_wp2_with fail
        refine CE.out.mono ?_
        rintro e w8 ⟨ua, um, uc, rfl, hum, HUO, HB8⟩
        obtain rfl : um = 1 := hum.out.symm
        have HTO8 := Kp.mk (own_below HTO7.out HB8.out)
        have HBE := Kp.mk (below_step HBW5.out (HB7.out.trans (HB8.out.mono HB7.out.size)))
        have HZ := Kp.mk HBW5.out.size
        clear CE HTO7 HB7 HB8
        go_wp2
        refine bodyPost_ret (v := .tuple #[.slice ta np tc, .bool true]) (by simp [results, Tryd.results12, go_sem]) rfl ?_
        exact ⟨ta, tc, T, rfl, HTF, ⟨own_base HTO8.out HZ.out⟩, HBE⟩

end Go.Proofs.YteeeikninigeoaaDoor

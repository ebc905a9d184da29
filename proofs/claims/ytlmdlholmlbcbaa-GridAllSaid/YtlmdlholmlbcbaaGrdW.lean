/- GridAll: the walk. -/
import Derived.Test.YtlmdlholmlbcbaaGrdY
import Derived.Test.YtlmdlholmlbcbaaGrdG
import Derived.Test.YtlmdlholmlbcbaaRectOf
import Derived.Test.YtlmdlholmlbcbaaBool
import Derived.Test.YtlmdlholmlbcbaaFlatIn
namespace Go.Proofs.Ytlmdlholmlbcbaa
set_option linter.unusedVariables false
open Go.RowKit

/-- Who was marked, of the first so many. -/
structure Marked (out : List Nat) (i N : Nat) (T : List Bool) : Prop where
  len : T.length = N
  is_ : ∀ p, p < N → T.getD p false = decide (p ∈ out.take i)
theorem mark_start (out : List Nat) (N : Nat) : Marked out 0 N (List.replicate N false) := ⟨by simp, fun p hp => by simp [List.getD, hp]⟩
theorem mark_step {out : List Nat} {i N : Nat} {T : List Bool} (h : Marked out i N T) (hi : i < out.length) (hp : out.getD i 0 < N) : Marked out (i + 1) N (T.set (out.getD i 0) true) := by
  refine ⟨by rw [List.length_set]; exact h.len, fun p hpN => ?_⟩
  rw [List.take_succ_eq_append_getElem hi, ← getD_at out 0 hi]
  have h1 := h.is_ p hpN
  simp only [List.getD, List.getElem?_set] at h1 ⊢
  by_cases e : out[i]?.getD 0 = p
  · simp [e, h.len, hpN]
  · simp [e, h1, Ne.symm e]
theorem mark_new {out : List Nat} {i : Nat} (h : out.Nodup) (hi : i < out.length) : out.getD i 0 ∉ out.take i := by
  intro hm
  obtain ⟨j, hj, e⟩ := List.getElem_of_mem hm
  rw [List.length_take] at hj
  rw [List.getElem_take, getD_at out 0 hi] at e
  have := List.pairwise_iff_getElem.1 h j i (by omega) hi (by omega)
  exact this e
/-- What a row of marks reads as. -/
theorem mark_cell {w : World} {B g c N i p : Nat} {out : List Nat} {T : List Bool} (h : Marked out i N T) (ho : w.ownsRow B 4 1 (.slice (some ⟨g, 0, none⟩) N c) N (bls T)) (hp : p < N) : w.cell? ⟨g, p, none⟩ = some (.bool (decide (p ∈ out.take i))) := by
  have h1 := ho.cellAt p (by rw [Nat.mul_one]; exact hp)
  rw [h1]
  have h2 := h.is_ p hp
  rw [getD_at _ _ (by rw [h.len]; exact hp)] at h2
  unfold bls
  rw [List.getElem?_map, List.getElem?_eq_getElem (by rw [h.len]; exact hp), h2]; rfl

/-- The weight of the last one told. -/
def lstW (L : List Pt) (out : List Nat) : Nat → Int
  | 0 => 100
  | i + 1 => (L.getD (out.getD i 0) pt0).w
theorem lstW_ge {L : List Pt} {out S : List Nat} {k i : Nat} (h : IsTop (wtL L) S k out) (hi : i < out.length) (hw : ∀ i, (L.getD i pt0).w ≤ 100) : (L.getD (out.getD i 0) pt0).w ≤ lstW L out i := by
  cases i with
  | zero => exact hw _
  | succ i =>
    have := h.le i (i + 1) (by omega) hi
    unfold wtL at this
    show _ ≤ (L.getD (out.getD i 0) pt0).w
    omega
theorem lstW_rest {L : List Pt} {out S : List Nat} {k s : Nat} (h : IsTop (wtL L) S k out) (hs : s ∈ S) (hn : s ∉ out) (hw : ∀ i, (L.getD i pt0).w ≤ 100) : (L.getD s pt0).w ≤ lstW L out out.length := by
  cases hl : out.length with
  | zero => exact hw _
  | succ m =>
    have := h.rest s hs hn (out.getD m 0) (by rw [getD_at out 0 (by omega)]; exact List.getElem_mem _)
    unfold wtL at this
    show _ ≤ (L.getD (out.getD m 0) pt0).w
    omega

set_option maxRecDepth 100000 in
set_option maxHeartbeats 16000000 in
theorem walk_GridAll (a0 : Option Addr) (len0 cap0 : Nat) (z0 : List Int) (a1 a2 a3 a4 a5 : Int) (w : World) (w0 : IsFlat 3 w a0 len0 cap0 z0) (w1 : (Lit.int .i64 a1).wf = true) (w2 : (Lit.int .i64 a2).wf = true) (w3 : (Lit.int .i64 a3).wf = true) (w4 : (Lit.int .i64 a4).wf = true) (w5 : (Lit.int .i64 a5).wf = true) :
    Calls Try.prog 14 #[.slice a0 len0 cap0, .int .i64 a1, .int .i64 a2, .int .i64 a3, .int .i64 a4, .int .i64 a5] w fun e w' => e = .returned (.bool true) ∧ Below w.heap.size w w' := by
  obtain ⟨S, hS, wS, nS⟩ := spots_in w0
  have HI5 := Kp.mk (wf_bd w5)
  have C1 := Kp.mk (points_any a0 cap0 len0 60 15 S w hS (by unfold maxLen at nS; omega) (by omega) (by omega) (by omega) wS)
  have CR := Kp.mk (fun W => rectOf_any a1 a2 a3 a4 15 W (by omega) (by omega) w1 w2 w3 w4)
  clear w0 hS wS w1 w2 w3 w4 w5 nS
  go_enter Try.func14, Try.ntmps14
  go_wp2_with fail
  refine C1.out.mono ?_
  rintro e w1 ⟨sa, sc, n, rfl, HR, HO, hb1⟩
  have HB1 := Kp.mk hb1
  have hn60 : n ≤ 60 := by have := HR.out; rw [ptsOf_length] at this; omega
  have HBD := Kp.mk (ptsOf_bd S 60 15 (by omega))
  have HP1 := Kp.mk (show SlF ptL 3 w1 sa n sc (ptsOf S 60 15) from own_slc HO.out)
  have HSA1 := Kp.mk (fun q hq => (own_lt HO.out q hq).2)
  generalize ptsOf S 60 15 = L at *
  have HNR := Kp.mk (show ∀ p ∈ L, p.Near from fun p hp => by have := HBD.out p hp; unfold Pt.Near; omega)
  have HLL := Kp.mk HR.out
  clear hb1 C1 HO HR
  go_wp2_with fail
  refine (CR.out _).mono ?_
  rintro e w2 ⟨X0, Y0, X1, Y1, hx, hx1, hy, hy1, rfl, hb2⟩
  have HB2 := Kp.mk (below_step HB1.out hb2)
  have HP2 := Kp.mk (SlF.below HP1.out hb2)
  have HSA2 := Kp.mk (fun q hq => Nat.lt_of_lt_of_le (HSA1.out q hq) hb2.size)
  clear hb2 CR HP1 HB1 HSA1
  obtain ⟨x0, hx0⟩ : ∃ z : Int, (X0 : Int) = z := ⟨_, rfl⟩
  obtain ⟨y0, hy0⟩ : ∃ z : Int, (Y0 : Int) = z := ⟨_, rfl⟩
  obtain ⟨x1, hx1'⟩ : ∃ z : Int, (X1 : Int) = z := ⟨_, rfl⟩
  obtain ⟨y1, hy1'⟩ : ∃ z : Int, (Y1 : Int) = z := ⟨_, rfl⟩
  rw [hx0, hy0, hx1', hy1']
  have HRB := Kp.mk (show (0 ≤ x0 ∧ x0 < 1000) ∧ (0 ≤ y0 ∧ y0 < 1000) ∧ (0 ≤ x1 ∧ x1 < 1000) ∧ (0 ≤ y1 ∧ y1 < 1000) from by omega)
  clear hx hx1 hy hy1 hx0 hy0 hx1' hy1'
  have b3 := Box.new w2 #[.int .i64 x0, .int .i64 y0, .int .i64 x1, .int .i64 y1] 65
  have hbA := below_alloc (Nat.le_refl w2.heap.size) (.cells #[.int .i64 x0, .int .i64 y0, .int .i64 x1, .int .i64 y1] 65)
  have HB3 := Kp.mk (below_step HB2.out hbA)
  have HP3 := Kp.mk (SlF.below HP2.out hbA)
  have HSA3 := Kp.mk (fun q hq => Nat.lt_of_lt_of_le (HSA2.out q hq) hbA.size)
  obtain ⟨br, hbr⟩ : ∃ br, w2.heap.size = br := ⟨_, rfl⟩
  obtain ⟨w3, hw3⟩ : ∃ w3, w2.alloc (.cells #[.int .i64 x0, .int .i64 y0, .int .i64 x1, .int .i64 y1] 65) = w3 := ⟨_, rfl⟩
  rw [hw3, hbr] at b3
  rw [hw3] at HB3 HP3 HSA3
  have HX3 := Kp.mk b3
  go_upto_region 3 with (fail)
  try simp only [hbr]
  try rw [hw3]
  clear b3 hbA hw3 hbr HB2 HP2 HSA2
  have c0 : w3.cell? ⟨br, 0, none⟩ = some (.int .i64 x0) := HX3.out.cell 0 rfl
  have c1 : w3.cell? ⟨br, 1, none⟩ = some (.int .i64 y0) := HX3.out.cell 1 rfl
  have c2 : w3.cell? ⟨br, 2, none⟩ = some (.int .i64 x1) := HX3.out.cell 2 rfl
  have c3 : w3.cell? ⟨br, 3, none⟩ = some (.int .i64 y1) := HX3.out.cell 3 rfl
  have hD0 : Below w3.heap.size w3 w3.drew := (Below.refl _ _).drew
  have HKS := Kp.mk (fun (w' : World) (hb : Below w3.heap.size w3 w') => show w'.cell? ⟨br, 0, none⟩ = some (.int .i64 x0) ∧ w'.cell? ⟨br, 1, none⟩ = some (.int .i64 y0) ∧ w'.cell? ⟨br, 2, none⟩ = some (.int .i64 x1) ∧ w'.cell? ⟨br, 3, none⟩ = some (.int .i64 y1) from by
    have hbx := HX3.out.below hb
    exact ⟨hbx.cell 0 rfl, hbx.cell 1 rfl, hbx.cell 2 rfl, hbx.cell 3 rfl⟩)
  have hn' : n * 24 ≤ 140737488355328 := by omega
  go_region_held3 (fun w' => w'.cell? ⟨br, 0, none⟩ = some (.int .i64 x0) ∧ w'.cell? ⟨br, 1, none⟩ = some (.int .i64 y0) ∧ w'.cell? ⟨br, 2, none⟩ = some (.int .i64 x1) ∧ w'.cell? ⟨br, 3, none⟩ = some (.int .i64 y1))
    (first | exact ⟨c0, c1, c2, c3⟩ | exact hS4 | exact hS5 | go_keep)
    ((first
      | (refine step_cat0 tPts (by rfl) _ _ (by rfl) w3.heap.size (by rfl) sa n sc _ (by rfl) (SlF.below HP3.out hD0) (flat_one ptL_one _) hn' (by decide) (Nat.le_refl _) ?_; intro xa xc w4 hown4 hgr4; have hb4 : Below w3.heap.size w3 w4 := hD0.trans (below_of_grown hgr4 (Nat.le_refl _) (fun q hq => by cases hq)); have hS4 := HKS.out w4 hb4)
      | (go_at_call 37; refine (gReport_any xa xc n L x0 y0 x1 y1 w4 (own_slc hown4) (by omega) HNR.out).mono ?_; rintro e w5 ⟨ra, m, rc, rep, rfl, HIR, HRO, HB5⟩; have hb5 := below_step hb4 HB5.out; have hS5 := HKS.out w5 hb5)
      | fail))
  have HP5 := Kp.mk (SlF.below HP3.out hb5)
  have HX5 := Kp.mk (HX3.out.below hb5)
  have HBW5 := Kp.mk (below_step HB3.out hb5)
  have HSA5 := Kp.mk (fun q hq => Nat.lt_of_lt_of_le (HSA3.out q hq) hb5.size)
  obtain ⟨hir, hrl, hmn⟩ := HIR.out
  have HIR2 := Kp.mk hir
  have HRL := Kp.mk hrl
  have HCE := Kp.mk (show cntR L x0 y0 x1 y1 = m from by rw [← hir.len]; exact hrl)
  have CC := Kp.mk (fun (W : World) (h : SlF ptL 3 W sa n sc L) => show Calls Try.prog 39 #[.slice sa n sc, .agg #[.int .i64 x0, .int .i64 y0, .int .i64 x1, .int .i64 y1]] W (fun e w' => e = .returned (.int .i64 (m : Nat)) ∧ Below W.heap.size W w') from by
    have h1 := counted_any sa sc n L x0 y0 x1 y1 W h (by omega) HNR.out
    rw [HCE.out] at h1; exact h1)
  clear hir hrl HIR hb5 hb4 hown4 hgr4 hS4 HB5 HP3 HX3 HB3 HSA3 c0 c1 c2 c3 hD0 HKS hS5 hn'
  go_wp2_with (first
    | (go_at_call 38; refine (gridSure_any _).mono ?_; rintro e w6 ⟨rfl, hb6⟩; have HP6 := Kp.mk (SlF.below HP5.out hb6); have HX6 := Kp.mk (HX5.out.below hb6); have c0 : w6.cell? ⟨br, 0, none⟩ = some (.int .i64 x0) := HX6.out.cell 0 rfl; have c1 : w6.cell? ⟨br, 1, none⟩ = some (.int .i64 y0) := HX6.out.cell 1 rfl; have c2 : w6.cell? ⟨br, 2, none⟩ = some (.int .i64 x1) := HX6.out.cell 2 rfl; have c3 : w6.cell? ⟨br, 3, none⟩ = some (.int .i64 y1) := HX6.out.cell 3 rfl)
    | (go_at_call 39; refine (CC.out _ HP6.out).mono ?_; rintro e w7 ⟨rfl, hb7⟩)
    | (at_make; refine wpList_mk1 tBools (by rfl) rfl _ _ rfl w7.heap.size n rfl rfl ?m1 (by decide) (Nat.le_refl _) ?m2)
    | fail)
  case m1 => omega
  case m2 =>
    intro ta tc w8 hT hb8
    have HB7 := Kp.mk (below_step hb6 hb7)
    have HP7 := Kp.mk (SlF.below HP6.out hb7)
    have HX7 := Kp.mk (HX6.out.below hb7)
    have HRO7 := Kp.mk (own_below HRO.out HB7.out)
    have HBW7 := Kp.mk (below_step HBW5.out HB7.out)
    have HSA7 := Kp.mk (fun q hq => Nat.lt_of_lt_of_le (HSA5.out q hq) HB7.out.size)
    have HT := Kp.mk hT
    have HB8 := Kp.mk hb8
    clear hT hb8 hb6 hb7 HP5 HX5 HP6 HX6 c0 c1 c2 c3 HRO HBW5 HSA5 HB7 CC
    have HRC := Kp.mk (fun (W : World) (hW : Below w7.heap.size w7 W) (i : Nat) (hi : i < m) => show ∃ rb ro, ra = some ⟨rb, ro, none⟩ ∧ W.cell? ⟨rb, ro + i, none⟩ = some (.int .i64 ((rep.getD i 0 : Nat) : Int)) from by
      have h1 := own_sl_len (own_below HRO7.out hW) (by rw [List.length_map]; exact HRL.out)
      obtain ⟨rb, ro, e, cr⟩ := h1.at i (by rw [List.length_map, HRL.out]; exact hi)
      rw [List.getElem_map, ← getD_at rep 0 (by rw [HRL.out]; exact hi)] at cr
      exact ⟨rb, ro, e, cr⟩)
    have HRP := Kp.mk (show ∀ p, p ∈ rep → p < n ∧ (x0 ≤ (L.getD p pt0).x ∧ (L.getD p pt0).x ≤ x1 ∧ y0 ≤ (L.getD p pt0).y ∧ (L.getD p pt0).y ≤ y1) from fun p hp => by
      have h1 := (HIR2.out.mem p).1 hp
      rw [inL_iff, HLL.out] at h1
      exact h1)
    have HPC := Kp.mk (fun (W : World) (hW : Below w7.heap.size w7 W) (p : Nat) (hp : p < n) => show ∃ pb po, sa = some ⟨pb, po, none⟩ ∧ W.cell? ⟨pb, po + p * 3, none⟩ = some (.int .i64 (L.getD p pt0).x) ∧ W.cell? ⟨pb, po + p * 3 + 1, none⟩ = some (.int .i64 (L.getD p pt0).y) ∧ W.cell? ⟨pb, po + p * 3 + 2, none⟩ = some (.int .i64 (L.getD p pt0).w) from by
      obtain ⟨pb, po, e, _, co⟩ := (SlF.below HP7.out hW).at ptL_len (by omega) p (by rw [HLL.out]; exact hp)
      rw [← getD_at L pt0 (by rw [HLL.out]; exact hp)] at co
      exact ⟨pb, po, e, co 0 (by omega), co 1 (by omega), co 2 (by omega)⟩)
    have HXC := Kp.mk (fun (W : World) (hW : Below w7.heap.size w7 W) => show W.cell? ⟨br, 0, none⟩ = some (.int .i64 x0) ∧ W.cell? ⟨br, 1, none⟩ = some (.int .i64 y0) ∧ W.cell? ⟨br, 2, none⟩ = some (.int .i64 x1) ∧ W.cell? ⟨br, 3, none⟩ = some (.int .i64 y1) from by
      have hbx := HX7.out.below hW
      exact ⟨hbx.cell 0 rfl, hbx.cell 1 rfl, hbx.cell 2 rfl, hbx.cell 3 rfl⟩)
    have hmr : m ≤ rc := (own_slc HRO7.out).le
    have hnsc : n ≤ sc := HP7.out.le
    go_wp2
    go_loopw [18] (fun v18 wr => ∃ (i : Nat) (T : List Bool), i ≤ m ∧ v18 = .int .i64 i ∧ Kp (Marked rep i n T) ∧ Kp (wr.ownsRow w7.heap.size 4 1 (.slice ta n tc) n (bls T)) ∧ Kp (Below w7.heap.size w7 wr)) (fun v18 _ => m - (intOf v18).toNat)
    case atStart => exact ⟨0, List.replicate n false, by omega, rfl, ⟨mark_start rep n⟩, ⟨by have h := HT.out; rwa [show List.replicate n (Value.bool false) = bls (List.replicate n false) by simp [bls]] at h⟩, HB8⟩
    case round =>
      clear HT HB8
      obtain ⟨i, T, hi, rfl, HTD, HTO, HBR⟩ := hrel
      by_cases him : i < m
      · have hpm : rep.getD i 0 ∈ rep := by rw [getD_at rep 0 (by rw [HRL.out]; exact him)]; exact List.getElem_mem _
        obtain ⟨hp, e1, e2, e3, e4⟩ := HRP.out _ hpm
        obtain ⟨rb, ro, rfl, r0⟩ := HRC.out wr HBR.out i him
        obtain ⟨pb, po, rfl, p0, p1, p2⟩ := HPC.out wr HBR.out _ hp
        obtain ⟨c0, c1, c2, c3⟩ := HXC.out wr HBR.out
        obtain ⟨tb, rfl, htb, _⟩ := own_some HTO.out (by omega)
        have t0 := mark_cell HTD.out HTO.out hp
        rw [decide_eq_false (mark_new HIR2.out.nodup (by rw [HRL.out]; exact him))] at t0
        have HTS := Kp.mk (mark_step HTD.out (by rw [HRL.out]; exact him) hp)
        generalize rep.getD i 0 = p at *
        generalize L.getD p pt0 = pt at *
        obtain ⟨px, py, pw⟩ := pt
        dsimp only at e1 e2 e3 e4 p0 p1 p2
        have hpz : (p : Int) < n := by omega
        have hiz : (i : Int) < m := by omega
        have q1 : decide ((p : Int) < 0) = false := decide_eq_false (by omega)
        have q2 : decide ((p : Int) ≥ n) = false := decide_eq_false (by omega)
        have q3 : decide (px < x0) = false := decide_eq_false (by omega)
        have q4 : decide (px > x1) = false := decide_eq_false (by omega)
        have q5 : decide (py < y0) = false := decide_eq_false (by omega)
        have q6 : decide (py > y1) = false := decide_eq_false (by omega)
        have q7 : ¬ n ≤ p := by omega
        have htn : n ≤ tc := (own_slc HTO.out).le
        go_wp2
        go_quiet (fail)
        have HB9 := Kp.mk (HBR.out.trans (drewN_below (w := wr) nq))
        have HTO9 := Kp.mk (own_below HTO.out (drewN_below (w := wr) nq))
        have t9 : (wr.drewN nq).cell? ⟨tb, p, none⟩ = some (.bool false) := t0
        have f9 := HTO9.out.frozenAt p
        have HTO10 := Kp.mk (show ((wr.drewN nq).setCell ⟨tb, p, none⟩ (.bool true)).ownsRow w7.heap.size 4 1 (.slice (some ⟨tb, 0, none⟩) n tc) n (bls (T.set p true)) from by
          rw [← bls_set]; exact (HTO9.out.stored p (.bool true)).1)
        have HB10 := Kp.mk (HB9.out.trans (below_of_grown (grown_set (wr.drewN nq) tb p (.bool true)) HB9.out.size (fun q hq => by cases hq; exact htb)))
        clear HB9 HTO9 HTO HBR t0 r0 p0 p1 p2 c0 c1 c2 c3
        generalize wr.drewN nq = w9 at *
        go_wp2
        go_roundw
        case rel => exact ⟨i + 1, T.set p true, by omega, by go_num, HTS, HTO10, HB10⟩
        case measure => simp [intOf]; omega
      · obtain rfl : m = i := by omega
        have HTK := Kp.mk (show rep.take m = rep from List.take_of_length_le (by rw [HRL.out]; exact Nat.le_refl _))
        have HW := Kp.mk (show ∀ i, (L.getD i pt0).w ≤ 100 from fun i => by
          by_cases hi : i < n
          · have hm : L.getD i pt0 ∈ L := by rw [getD_at _ _ (by rw [HLL.out]; exact hi)]; exact List.getElem_mem _
            have := HBD.out _ hm; omega
          · have : L.getD i pt0 = pt0 := by simp [List.getD, List.getElem?_eq_none (show L.length ≤ i by rw [HLL.out]; omega)]
            rw [this]; decide)
        have HMK := Kp.mk (fun (W : World) (hW : Below wr.heap.size wr W) (p : Nat) (hp : p < n) => show ∃ tb, ta = some ⟨tb, 0, none⟩ ∧ W.cell? ⟨tb, p, none⟩ = some (.bool (decide (p ∈ rep))) from by
          obtain ⟨tb, rfl, _, _⟩ := own_some HTO.out (by omega)
          have := mark_cell HTD.out (own_below HTO.out hW) hp
          rw [HTK.out] at this
          exact ⟨tb, rfl, this⟩)
        have htn : n ≤ tc := (own_slc HTO.out).le
        obtain ⟨wo, rfl⟩ : ∃ wo : World, wo = wr := ⟨_, rfl⟩
        have HKI := Kp.mk (show ∀ p, KthOf L x0 y0 x1 y1 0 p → (-1 : Int) ≤ (L.getD p pt0).y from fun p hp => by
          have h1 := hp.inn; rw [inL_iff] at h1; have := HRB.out; omega)
        clear HTD HTO
        go_wp2
        go_loopw [20, 21] (fun v20 v21 wr => ∃ (i : Nat) (last : Int), i ≤ m ∧ v20 = .int .i64 last ∧ v21 = .int .i64 i ∧ Kp (∀ p, KthOf L x0 y0 x1 y1 i p → last ≤ (L.getD p pt0).y) ∧ Kp (Below wo.heap.size wo wr)) (fun _ v21 _ => m - (intOf v21).toNat)
        case atStart => exact ⟨0, -1, Nat.zero_le _, rfl, rfl, HKI, ⟨Below.refl _ _⟩⟩
        case round =>
          clear HKI
          obtain ⟨i, last, hi, rfl, rfl, HLA, HBJ⟩ := hrel
          have HBR2 := Kp.mk (HBR.out.trans (HBJ.out.mono HBR.out.size))
          obtain ⟨c0, c1, c2, c3⟩ := HXC.out wr HBR2.out
          by_cases him : i < m
          · have hiz : (i : Int) < m := by omega
            have CK := Kp.mk (gKth_any sa sc n L x0 y0 x1 y1 i wr (SlF.below HP7.out HBR2.out) (by omega) HNR.out (by rw [HCE.out]; exact him))
            go_wp2_with fail
            refine CK.out.mono ?_
            rintro e w9 ⟨p, rfl, HKP, hb9⟩
            have hp : p < n := by have := HKP.out.lt; rw [HLL.out] at this; exact this
            have hpr : p ∈ rep := (HIR2.out.mem p).2 ⟨by rw [HLL.out]; exact hp, HKP.out.inn⟩
            have HB9 := Kp.mk (HBJ.out.trans (hb9.mono HBJ.out.size))
            have hle := HLA.out p HKP.out
            have HLN := Kp.mk (show ∀ p', KthOf L x0 y0 x1 y1 (i + 1) p' → (L.getD p pt0).y ≤ (L.getD p' pt0).y from fun p' hp' => HKP.out.mono hp' (by omega))
            obtain ⟨tb, rfl, t0⟩ := HMK.out w9 HB9.out p hp
            rw [decide_eq_true hpr] at t0
            obtain ⟨pb, po, rfl, p0, p1, p2⟩ := HPC.out w9 (HBR.out.trans (HB9.out.mono HBR.out.size)) p hp
            generalize L.getD p pt0 = pt at *
            obtain ⟨px, py, pw⟩ := pt
            dsimp only at hle HLN p0 p1 p2
            have hpz : (p : Int) < n := by omega
            have q1 : decide ((p : Int) < 0) = false := decide_eq_false (by omega)
            have q2 : decide ((p : Int) ≥ n) = false := decide_eq_false (by omega)
            have q3 : decide (py < last) = false := decide_eq_false (by omega)
            have q7 : ¬ n ≤ p := by omega
            clear CK c0 c1 c2 c3 HKP hb9 HLA HBR2
            go_wp2
            go_roundw
            case rel => exact ⟨i + 1, py, by omega, rfl, by go_num, HLN, HB9⟩
            case measure => simp [intOf]; omega
          · obtain rfl : m = i := by omega
            have HBJ2 := Kp.mk HBJ.out
            obtain ⟨wq, rfl⟩ : ∃ wq : World, wq = wr := ⟨_, rfl⟩
            have hb1 := pick_bd a5 ((m : Int) + 2) (by omega)
            have CP := Kp.mk (fun W => picked_any a5 ((m : Int) + 2) W (by omega) (by omega) HI5.out.1 HI5.out.2)
            obtain ⟨k, hk⟩ : ∃ k : Nat, pick a5 ((m : Int) + 2) = (k : Int) := ⟨(pick a5 ((m : Int) + 2)).toNat, by omega⟩
            rw [hk] at CP hb1
            have ew : IntKind.i64.wrap ((m : Int) + 2) = (m : Int) + 2 := IntWalk.i64_in _ (by omega)
            have hk1 : k ≤ 1000 := by omega
            clear hk hb1 HLA
            have CT := Kp.mk (gTop_any sa sc n L x0 y0 x1 y1 k wq (SlF.below HP7.out HBR2.out) (by omega) HNR.out (fun q hq => Nat.lt_of_lt_of_le (HSA7.out q hq) HBR2.out.size) hk1)
            go_wp2_with (first
              | (go_at_call 19; refine (CP.out _).mono ?_; rintro e w' ⟨rfl, rfl⟩)
              | (go_at_call 41; refine CT.out.mono ?_; rintro e w9 ⟨ua, mt, uc, out, rfl, HOT, HUO, HB9⟩; obtain ⟨hol, rep2, hrep2, htop⟩ := HOT.out; have hmt : mt = min k m := (by have h1 := htop.len; have h2 := hrep2.len; rw [HCE.out] at h2; omega); have hmi : min (k : Int) (m : Int) = (mt : Int) := (by omega))
              | (at_make; refine wpList_mk1 tBools (by rfl) rfl _ _ rfl w9.heap.size n rfl rfl ?n1 (by decide) (Nat.le_refl _) ?n2)
              | fail)
            case n1 => omega
            case n2 =>
              intro ha hc w10 hT hb10
              have HT := Kp.mk hT
              have HB10 := Kp.mk hb10
              have HOL := Kp.mk hol
              have HTP := Kp.mk htop
              have HMM := Kp.mk (show ∀ p, p ∈ rep ↔ p ∈ rep2 from fun p => by rw [HIR2.out.mem, hrep2.mem])
              have HOP := Kp.mk (show ∀ p, p ∈ out → p ∈ rep from fun p hp => (HMM.out p).2 (htop.mem p hp))
              have HBQ9 := Kp.mk (HBJ2.out.trans (HB9.out.mono HBJ2.out.size))
              have HB79 := Kp.mk (HBR2.out.trans (HB9.out.mono HBR2.out.size))
              have HUC := Kp.mk (fun (W : World) (hW : Below w9.heap.size w9 W) (i : Nat) (hi : i < mt) => show ∃ ub uo, ua = some ⟨ub, uo, none⟩ ∧ W.cell? ⟨ub, uo + i, none⟩ = some (.int .i64 ((out.getD i 0 : Nat) : Int)) from by
                have h1 := own_sl_len (own_below HUO.out hW) (by rw [List.length_map]; exact HOL.out)
                obtain ⟨ub, uo, e, cr⟩ := h1.at i (by rw [List.length_map, HOL.out]; exact hi)
                rw [List.getElem_map, ← getD_at out 0 (by rw [HOL.out]; exact hi)] at cr
                exact ⟨ub, uo, e, cr⟩)
              have hmu : mt ≤ uc := (own_slc HUO.out).le
              have hnhc : n ≤ hc := (own_slc HT.out).le
              clear hT hb10 hol hrep2 htop HOT CT CP ew c0 c1 c2 c3 HXC HRC
              go_wp2
              go_loopw [27, 29] (fun v27 v29 wr => ∃ (i : Nat) (T : List Bool), i ≤ mt ∧ v27 = .int .i64 (lstW L out i) ∧ v29 = .int .i64 i ∧ Kp (Marked out i n T) ∧ Kp (wr.ownsRow w9.heap.size 4 1 (.slice ha n hc) n (bls T)) ∧ Kp (Below w9.heap.size w9 wr)) (fun _ v29 _ => mt - (intOf v29).toNat)
              case atStart => exact ⟨0, List.replicate n false, by omega, rfl, rfl, ⟨mark_start out n⟩, ⟨by have h := HT.out; rwa [show List.replicate n (Value.bool false) = bls (List.replicate n false) by simp [bls]] at h⟩, HB10⟩
              case round =>
                clear HT HB10
                obtain ⟨i, T, hi, rfl, rfl, HTD, HTO, HBI⟩ := hrel
                by_cases him : i < mt
                · have hiz : (i : Int) < mt := by omega
                  have hpo : out.getD i 0 ∈ out := by rw [getD_at out 0 (by rw [HOL.out]; exact him)]; exact List.getElem_mem _
                  have hpr := HOP.out _ hpo
                  obtain ⟨hp, _⟩ := HRP.out _ hpr
                  obtain ⟨ub, uo, rfl, u0⟩ := HUC.out wr HBI.out i him
                  obtain ⟨tb, rfl, t0⟩ := HMK.out wr (HBQ9.out.trans (HBI.out.mono HBQ9.out.size)) _ hp
                  rw [decide_eq_true hpr] at t0
                  obtain ⟨pb, po, rfl, p0, p1, p2⟩ := HPC.out wr (HB79.out.trans (HBI.out.mono HB79.out.size)) _ hp
                  obtain ⟨gb, rfl, hgb, _⟩ := own_some HTO.out (by omega)
                  have v0 := mark_cell HTD.out HTO.out hp
                  rw [decide_eq_false (mark_new HTP.out.nodup (by rw [HOL.out]; exact him))] at v0
                  have HTS := Kp.mk (mark_step HTD.out (by rw [HOL.out]; exact him) hp)
                  have hge := lstW_ge HTP.out (by rw [HOL.out]; exact him) HW.out
                  have HLS := Kp.mk (show lstW L out (i + 1) = (L.getD (out.getD i 0) pt0).w from rfl)
                  have HUC2 := Kp.mk (fun W hW => HUC.out W hW i him)
                  have HPC2 := Kp.mk (fun W hW => HPC.out W hW (out.getD i 0) hp)
                  have f9 := HTO.out.frozenAt (out.getD i 0)
                  have HTO10 := Kp.mk (show (wr.setCell ⟨gb, out.getD i 0, none⟩ (.bool true)).ownsRow w9.heap.size 4 1 (.slice (some ⟨gb, 0, none⟩) n hc) n (bls (T.set (out.getD i 0) true)) from by
                    rw [← bls_set]; exact (HTO.out.stored (out.getD i 0) (.bool true)).1)
                  have HB11 := Kp.mk (HBI.out.trans (below_of_grown (grown_set wr gb (out.getD i 0) (.bool true)) HBI.out.size (fun q hq => by cases hq; exact hgb)))
                  generalize out.getD i 0 = p at *
                  generalize lstW L out i = lst at *
                  generalize L.getD p pt0 = pt at *
                  obtain ⟨px, py, pw⟩ := pt
                  dsimp only at hge HLS HPC2 p0 p1 p2
                  have hpz : (p : Int) < n := by omega
                  have q1 : decide ((p : Int) < 0) = false := decide_eq_false (by omega)
                  have q2 : decide ((p : Int) ≥ n) = false := decide_eq_false (by omega)
                  have q3 : decide (pw > lst) = false := decide_eq_false (by omega)
                  have q7 : ¬ n ≤ p := by omega
                  obtain ⟨w11, hw11⟩ : ∃ w11, wr.setCell ⟨gb, p, none⟩ (.bool true) = w11 := ⟨_, rfl⟩
                  rw [hw11] at HTO10 HB11
                  obtain ⟨ub', uo', eu, u1⟩ := HUC2.out w11 HB11.out
                  simp only [Option.some.injEq, Addr.mk.injEq, and_true] at eu
                  obtain ⟨rfl, rfl⟩ := eu
                  obtain ⟨pb', po', ep, p0', p1', p2'⟩ := HPC2.out w11 (HB79.out.trans (HB11.out.mono HB79.out.size))
                  simp only [Option.some.injEq, Addr.mk.injEq, and_true] at ep
                  obtain ⟨rfl, rfl⟩ := ep
                  clear HUC2 HPC2 HTO HTD
                  go_wp2
                  go_roundw
                  case rel => exact ⟨i + 1, T.set p true, by omega, by rw [HLS.out], by go_num, HTS, HTO10, HB11⟩
                  case measure => simp [intOf]; omega
                · obtain rfl : mt = i := by omega
                  have HTK2 := Kp.mk (show out.take mt = out from List.take_of_length_le (by rw [HOL.out]; exact Nat.le_refl _))
                  have HLR := Kp.mk (show ∀ s, s ∈ rep → s ∉ out → (L.getD s pt0).w ≤ lstW L out mt from fun s hs hn => by
                    have h1 := lstW_rest HTP.out ((HMM.out s).1 hs) hn HW.out
                    rw [HOL.out] at h1; exact h1)
                  obtain ⟨lst, hlst⟩ : ∃ z, lstW L out mt = z := ⟨_, rfl⟩
                  rw [hlst] at HLR ⊢
                  have HB7r := Kp.mk (HB79.out.trans (HBI.out.mono HB79.out.size))
                  have HBQr := Kp.mk (HBQ9.out.trans (HBI.out.mono HBQ9.out.size))
                  have HBE := Kp.mk (below_step HBW7.out HB7r.out)
                  clear hlst HBJ HBJ2 HUC
                  obtain ⟨wz, rfl⟩ : ∃ wz : World, wz = wr := ⟨_, rfl⟩
                  go_wp2
                  go_loopw [30] (fun v30 wr => ∃ i : Nat, i ≤ n ∧ v30 = .int .i64 i ∧ Kp (Below wz.heap.size wz wr)) (fun v30 _ => n - (intOf v30).toNat)
                  case atStart => exact ⟨0, Nat.zero_le _, rfl, ⟨Below.refl _ _⟩⟩
                  case round =>
                    obtain ⟨j, hj, rfl, HBZ⟩ := hrel
                    by_cases hjn : j < n
                    · have hjz : (j : Int) < n := by omega
                      obtain ⟨tb, rfl, t0⟩ := HMK.out wr (HBQr.out.trans (HBZ.out.mono HBQr.out.size)) j hjn
                      obtain ⟨pb, po, rfl, p0, p1, p2⟩ := HPC.out wr (HB7r.out.trans (HBZ.out.mono HB7r.out.size)) j hjn
                      obtain ⟨gb, rfl, hgb, _⟩ := own_some HTO.out (by omega)
                      have v0 := mark_cell HTD.out (own_below HTO.out HBZ.out) hjn
                      rw [HTK2.out] at v0
                      have hlr := HLR.out j
                      generalize L.getD j pt0 = pt at *
                      obtain ⟨px, py, pw⟩ := pt
                      dsimp only at hlr p0 p1 p2
                      clear p0 p1
                      by_cases hr : j ∈ rep
                      · rw [decide_eq_true hr] at t0
                        by_cases ho : j ∈ out
                        · rw [decide_eq_true ho] at v0
                          clear hlr
                          go_wp2
                          go_roundw
                          case rel => exact ⟨j + 1, by omega, by go_num, HBZ⟩
                          case measure => simp [intOf]; omega
                        · rw [decide_eq_false ho] at v0
                          have hle := hlr hr ho
                          have q3 : decide (pw > lst) = false := decide_eq_false (by omega)
                          clear hlr
                          go_wp2
                          go_roundw
                          case rel => exact ⟨j + 1, by omega, by go_num, HBZ⟩
                          case measure => simp [intOf]; omega
                      · rw [decide_eq_false hr] at t0
                        clear hlr
                        go_wp2
                        go_roundw
                        case rel => exact ⟨j + 1, by omega, by go_num, HBZ⟩
                        case measure => simp [intOf]; omega
                    · obtain rfl : n = j := by omega
                      go_wp2
                      go_ret
                      exact ⟨rfl, below_step HBE.out HBZ.out⟩

end Go.Proofs.Ytlmdlholmlbcbaa

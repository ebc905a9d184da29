/- NearOrder: the walk. -/
import Derived.Test.YtlmdlholmlbcbaaNrN
import Derived.Test.YtlmdlholmlbcbaaNrA
import Derived.Test.YtlmdlholmlbcbaaBool
import Derived.Test.YtlmdlholmlbcbaaFlatIn
import Derived.Test.YtlmdlholmlbcbaaStep
namespace Go.Proofs.Ytlmdlholmlbcbaa
set_option linter.unusedVariables false
open Go.RowKit
open Hp (nlt nlt_iff IsNear)

/-- Who was told, of the first so many. -/
structure ToldOf (out : List Nat) (i N : Nat) (T : List Bool) : Prop where
  len : T.length = N
  is_ : ∀ p, p < N → T.getD p false = decide (p ∈ out.take i)
theorem told_start (out : List Nat) (N : Nat) : ToldOf out 0 N (List.replicate N false) := ⟨by simp, fun p hp => by simp [List.getD, hp]⟩
theorem told_step {out : List Nat} {i N : Nat} {T : List Bool} (h : ToldOf out i N T) (hi : i < out.length) (hp : out.getD i 0 < N) : ToldOf out (i + 1) N (T.set (out.getD i 0) true) := by
  refine ⟨by rw [List.length_set]; exact h.len, fun p hpN => ?_⟩
  rw [List.take_succ_eq_append_getElem hi, ← getD_at out 0 hi]
  have h1 := h.is_ p hpN
  simp only [List.getD, List.getElem?_set] at h1 ⊢
  by_cases e : out[i]?.getD 0 = p
  · simp [e, h.len, hpN]
  · simp [e, h1, Ne.symm e]
theorem told_new {far : Nat → Int} {out : List Nat} {n k i : Nat} (h : IsNear far n k out) (hi : i < out.length) : out.getD i 0 ∉ out.take i := by
  intro hm
  obtain ⟨j, hj, e⟩ := List.getElem_of_mem hm
  rw [List.length_take] at hj
  rw [List.getElem_take, getD_at out 0 hi] at e
  have := List.pairwise_iff_getElem.1 (Hp.pw_nodup h.pw) j i (by omega) hi (by omega)
  exact this e
/-- How far the one told last is. -/
def lastF (far : Nat → Int) (out : List Nat) : Nat → Int
  | 0 => -1
  | i + 1 => far (out.getD i 0)
theorem last_le {far : Nat → Int} {out : List Nat} {n k i : Nat} (h : IsNear far n k out) (h0 : ∀ i, 0 ≤ far i) (hi : i < out.length) : lastF far out i ≤ far (out.getD i 0) := by
  cases i with
  | zero =>
    have := h0 (out.getD 0 0)
    show (-1 : Int) ≤ _
    omega
  | succ i =>
    have := List.pairwise_iff_getElem.1 h.pw i (i + 1) (by omega) hi (by omega)
    rw [nlt_iff] at this
    show far (out.getD i 0) ≤ _
    rw [getD_at out 0 hi, getD_at out 0 (show i < out.length by omega)]
    omega
theorem rest_le {far : Nat → Int} {out : List Nat} {n k m s : Nat} (h : IsNear far n k out) (hm : out.length = m + 1) (hs : s < n) (hn : s ∉ out) : lastF far out (m + 1) ≤ far s := by
  have := h.rest s hs hn (out.getD m 0) (by rw [getD_at out 0 (by omega)]; exact List.getElem_mem _)
  rw [nlt_iff] at this
  show far (out.getD m 0) ≤ far s
  omega

set_option maxRecDepth 100000 in
set_option maxHeartbeats 8000000 in
theorem walk_NearOrder (a0 : Option Addr) (len0 cap0 : Nat) (z0 : List Int) (a1 a2 a3 : Int) (w : World) (w0 : IsFlat 3 w a0 len0 cap0 z0) (w1 : (Lit.int .i64 a1).wf = true) (w2 : (Lit.int .i64 a2).wf = true) (w3 : (Lit.int .i64 a3).wf = true) :
    Calls Try.prog 8 #[.slice a0 len0 cap0, .int .i64 a1, .int .i64 a2, .int .i64 a3] w fun e w' => e = .returned (.bool true) ∧ Below w.heap.size w w' := by
  obtain ⟨S, hS, wS, nS⟩ := spots_in w0
  obtain ⟨i1, i2⟩ := wf_bd w1
  obtain ⟨i3, i4⟩ := wf_bd w2
  obtain ⟨i5, i6⟩ := wf_bd w3
  have C1 := Kp.mk (points_any a0 cap0 len0 60 30 S w hS (by unfold maxLen at nS; omega) (by omega) (by omega) (by omega) wS)
  have hX := pick_bd a1 30 (by omega)
  have hY := pick_bd a2 30 (by omega)
  have CX := Kp.mk (fun W => picked_any a1 30 W (by omega) (by omega) i1 i2)
  have CY := Kp.mk (fun W => picked_any a2 30 W (by omega) (by omega) i3 i4)
  obtain ⟨X, hXe⟩ : ∃ X, pick a1 30 = X := ⟨_, rfl⟩
  obtain ⟨Y, hYe⟩ : ∃ Y, pick a2 30 = Y := ⟨_, rfl⟩
  rw [hXe] at hX CX
  rw [hYe] at hY CY
  have HI5 := Kp.mk (And.intro i5 i6)
  clear w0 hS wS nS w1 w2 w3 i1 i2 i3 i4 i5 i6 hXe hYe
  go_enter Try.func8, Try.ntmps8
  go_wp2_with fail
  refine C1.out.mono ?_
  rintro e w1 ⟨sa, sc, r, rfl, HR, HO, hb1⟩
  have hr60 : r ≤ 60 := by have := HR.out; rw [ptsOf_length] at this; omega
  have HBD := Kp.mk (ptsOf_bd S 60 30 (by omega))
  generalize ptsOf S 60 30 = L0 at *
  have hsz := Kp.mk hb1.size
  have HB1 := Kp.mk hb1
  clear C1 hb1
  go_wp2_with (at_builtin; refine wpList_push tPts rfl _ _ rfl w.heap.size sa r sc _ rfl HO.out 1 1 _ rfl rfl ?d1 (by decide) ?d2 (by decide) hsz.out ?d4)
  case d1 => simp [Value.oneCell']
  case d2 => omega
  case d4 =>
    intro sa2 sc2 w2 hown hbel
    have HLE := Kp.mk (show (L0 ++ [(⟨3, 5, 0⟩ : Pt)]).length = r + 1 by rw [List.length_append, HR.out]; rfl)
    have HP2 := Kp.mk (show SlF ptL 3 w2 sa2 (r + 1) sc2 (L0 ++ [(⟨3, 5, 0⟩ : Pt)]) from by
      unfold SlF
      rw [flat_append]
      exact own_slc hown)
    have HNR := Kp.mk (show ∀ p ∈ L0 ++ [(⟨3, 5, 0⟩ : Pt)], p.Near from fun p hp => by
      rcases List.mem_append.1 hp with hp | hp
      · have := HBD.out p hp; unfold Pt.Near; omega
      · rw [List.mem_singleton.1 hp]; unfold Pt.Near; decide)
    have HB2 := Kp.mk (HB1.out.trans hbel)
    generalize L0 ++ [(⟨3, 5, 0⟩ : Pt)] = L at *
    clear hown hbel HO HR HBD hsz HB1
    obtain ⟨N, hN⟩ : ∃ N, r + 1 = N := ⟨_, rfl⟩
    rw [hN] at HLE HP2 ⊢
    have hN0 : 0 < N ∧ N ≤ 61 := by omega
    clear hN hr60
    have hb1 := pick_bd a3 N (by omega)
    have CK := Kp.mk (fun W => picked_any a3 N W (by omega) (by omega) HI5.out.1 HI5.out.2)
    obtain ⟨k, hk⟩ : ∃ k : Nat, pick a3 N = (k : Int) := ⟨(pick a3 N).toNat, by omega⟩
    rw [hk] at CK hb1
    have hkN : k + 1 ≤ N := by omega
    clear hk hb1 HI5
    have e1 : IntKind.i64.wrap (1 + (k : Int)) = (k : Int) + 1 := by rw [show 1 + (k : Int) = (k : Int) + 1 by omega]; exact IntWalk.i64_in _ (by omega)
    go_wp2_with (first
      | (go_at_call 19; with_reducible refine (CX.out _).mono ?_; rintro e w' ⟨rfl, rfl⟩)
      | (go_at_call 19; with_reducible refine (CY.out _).mono ?_; rintro e w' ⟨rfl, rfl⟩)
      | (go_at_call 19; with_reducible refine (CK.out _).mono ?_; rintro e w' ⟨rfl, rfl⟩)
      | fail)
    have hal := below_alloc (Nat.le_refl w2.heap.size) (.cells #[.int .i64 X, .int .i64 Y, .int .i64 0] 41)
    have HX2 := Kp.mk (Box.new w2 #[.int .i64 X, .int .i64 Y, .int .i64 0] 41)
    have HP3 := Kp.mk (HP2.out.below hal)
    have HB3 := Kp.mk (below_step HB2.out hal)
    obtain ⟨bp, hbp⟩ : ∃ bp, w2.heap.size = bp := ⟨_, rfl⟩
    obtain ⟨w3, hw3⟩ : ∃ w3, w2.alloc (.cells #[.int .i64 X, .int .i64 Y, .int .i64 0] 41) = w3 := ⟨_, rfl⟩
    rw [hbp, hw3] at HX2
    rw [hw3] at HP3 HB3 ⊢
    simp only [hbp]
    clear hal hbp hw3 HP2 HB2 CX CY CK
    have x0 : w3.cell? ⟨bp, 0, none⟩ = some (.int .i64 X) := HX2.out.cell 0 rfl
    have x1 : w3.cell? ⟨bp, 1, none⟩ = some (.int .i64 Y) := HX2.out.cell 1 rfl
    have hbw : bp < w3.heap.size := HX2.out.lt
    have hD0 : Below w3.heap.size w3 w3.drew := (Below.refl _ _).drew
    have CN := Kp.mk (fun (W : World) (xa : Option Addr) (xc : Nat) (hx : SlF ptL 3 W xa N xc L) => (nearest_any xa xc N (k + 1) X Y L W hx hN0.1 (by omega) HNR.out (by omega) (by omega) (by omega) (by omega)).mono (R' := fun e w' => ∃ oa oc out, e = .returned (.tuple #[.slice oa (k + 1) oc, .int .i64 0]) ∧ Kp (IsNear (fun i => fdist (L.getD i pt0) ⟨X, Y, 0⟩) N (k + 1) out) ∧ Kp (w'.ownsRow W.heap.size 3 1 (.slice oa (k + 1) oc) (k + 1) (natV out)) ∧ Kp (Below W.heap.size W w')) (fun e w' h => by rw [Nat.min_eq_left hkN] at h; exact h))
    have HKC := Kp.mk (show ((k + 1 : Nat) : Int) = (k : Int) + 1 by omega)
    rw [HKC.out] at CN
    go_wp2
    go_region_held3 (fun w' => w'.cell? ⟨bp, 0, none⟩ = some (.int .i64 X) ∧ w'.cell? ⟨bp, 1, none⟩ = some (.int .i64 Y))
      (first | exact ⟨x0, x1⟩ | exact hS4 | exact hS5)
      ((first
        | (refine step_cat0 tPts (by rfl) _ _ (by rfl) w3.heap.size (by rfl) sa2 N sc2 _ (by rfl) (SlF.below HP3.out hD0) (flat_one ptL_one _) (by omega) (by decide) (Nat.le_refl _) ?_; intro xa xc w4 hown4 hgr4; have hb4 : Below w3.heap.size w3 w4 := hD0.trans (below_of_grown hgr4 (Nat.le_refl _) (fun q hq => by cases hq)); have hS4 : w4.cell? ⟨bp, 0, none⟩ = some (.int .i64 X) ∧ w4.cell? ⟨bp, 1, none⟩ = some (.int .i64 Y) := ⟨(hb4.cell (p := ⟨bp, 0, none⟩) hbw).trans x0, (hb4.cell (p := ⟨bp, 1, none⟩) hbw).trans x1⟩)
        | (go_at_call 27; refine (CN.out w4 xa xc (own_slc hown4)).mono ?_; rintro e w5 ⟨oa, oc, out, rfl, HIN, HOO, HB5⟩; have hb5 := below_step hb4 HB5.out; have hS5 : w5.cell? ⟨bp, 0, none⟩ = some (.int .i64 X) ∧ w5.cell? ⟨bp, 1, none⟩ = some (.int .i64 Y) := ⟨(hb5.cell (p := ⟨bp, 0, none⟩) hbw).trans x0, (hb5.cell (p := ⟨bp, 1, none⟩) hbw).trans x1⟩)
        | fail))
    have hkl := HIN.out.len
    have HOL := Kp.mk (show out.length = k + 1 by rw [hkl]; exact Nat.min_eq_left hkN)
    have HP5 := Kp.mk (SlF.below HP3.out hb5)
    have HX5 := Kp.mk (HX2.out.below hb5)
    have HBW5 := Kp.mk (below_step HB3.out hb5)
    have h0f : ∀ p ∈ L, 0 ≤ fdist p ⟨X, Y, 0⟩ ∧ fdist p ⟨X, Y, 0⟩ ≤ 8796093022208 := fun p hp => fdist_bd (HNR.out p hp).xy ⟨⟨by show _ ≤ X; omega, by show X ≤ _; omega⟩, ⟨by show _ ≤ Y; omega, by show Y ≤ _; omega⟩⟩
    obtain ⟨far, hfar⟩ : ∃ far : Nat → Int, (fun i => fdist (L.getD i pt0) ⟨X, Y, 0⟩) = far := ⟨_, rfl⟩
    rw [hfar] at HIN
    have HFI := Kp.mk (show ∀ i, fdist (L.getD i pt0) ⟨X, Y, 0⟩ = far i from fun i => by rw [← hfar])
    obtain ⟨og, rfl, _, _⟩ := own_some HOO.out (by omega)
    have HOC := Kp.mk (fun (W : World) (hW : Below w5.heap.size w5 W) (i : Nat) (hi : i < k + 1) => show W.cell? ⟨og, i, none⟩ = some (.int .i64 ((out.getD i 0 : Nat) : Int)) from by
      have h1 := (own_below HOO.out hW).cellAt i (by rw [Nat.mul_one]; exact hi)
      rw [h1]
      unfold natV
      rw [List.getElem?_map, List.getElem?_eq_getElem (by rw [HOL.out]; exact hi), getD_at _ _ (by rw [HOL.out]; exact hi)]; rfl)
    have HON := Kp.mk (show ∀ i, i < k + 1 → out.getD i 0 < N from fun i hi => HIN.out.lt _ (by rw [getD_at _ _ (by rw [HOL.out]; exact hi)]; exact List.getElem_mem _))
    have hoc := (own_slc HOO.out).le
    have CA := Kp.mk (fun (W : World) (i : Nat) (hi : i < N) => show Calls Try.prog 28 #[.agg #[.int .i64 (L.getD i pt0).x, .int .i64 (L.getD i pt0).y, .int .i64 (L.getD i pt0).w], .agg #[.int .i64 X, .int .i64 Y, .int .i64 0]] W (fun e w' => e = .returned (.int .i64 (far i)) ∧ Below W.heap.size W w') from by
      rw [← HFI.out]
      have hm : L.getD i pt0 ∈ L := by rw [getD_at _ _ (by rw [HLE.out]; exact hi)]; exact List.getElem_mem _
      exact apart_any _ ⟨X, Y, 0⟩ W (HNR.out _ hm).xy ⟨⟨by show _ ≤ X; omega, by show X ≤ _; omega⟩, ⟨by show _ ≤ Y; omega, by show Y ≤ _; omega⟩⟩)
    have HF0 := Kp.mk (show ∀ i, 0 ≤ far i from fun i => by
      rw [← HFI.out]
      have sq : ∀ a : Int, 0 ≤ a * a := fun a => by
        rcases Int.le_total 0 a with h | h
        · exact Int.mul_nonneg h h
        · have := Int.mul_nonneg (show 0 ≤ -a by omega) (show 0 ≤ -a by omega)
          rwa [Int.neg_mul_neg] at this
      unfold fdist
      have := sq ((L.getD i pt0).x - X); have := sq ((L.getD i pt0).y - Y)
      dsimp only
      omega)
    obtain ⟨pb, po, rfl, _, _⟩ := HP5.out.at ptL_len (by omega) 0 (by rw [HLE.out]; omega)
    have HPC := Kp.mk (fun (W : World) (hW : Below w5.heap.size w5 W) (i : Nat) (hi : i < N) => show W.cell? ⟨pb, po + i * 3, none⟩ = some (.int .i64 (L.getD i pt0).x) ∧ W.cell? ⟨pb, po + i * 3 + 1, none⟩ = some (.int .i64 (L.getD i pt0).y) ∧ W.cell? ⟨pb, po + i * 3 + 2, none⟩ = some (.int .i64 (L.getD i pt0).w) ∧ W.cell? ⟨bp, 0, none⟩ = some (.int .i64 X) ∧ W.cell? ⟨bp, 1, none⟩ = some (.int .i64 Y) ∧ W.cell? ⟨bp, 2, none⟩ = some (.int .i64 0) from by
      obtain ⟨_, _, e, _, co⟩ := (SlF.below HP5.out hW).at ptL_len (by omega) i (by rw [HLE.out]; exact hi)
      simp only [Option.some.injEq, Addr.mk.injEq, and_true] at e
      obtain ⟨rfl, rfl⟩ := e
      rw [← getD_at L pt0 (by rw [HLE.out]; exact hi)] at co
      have hx := HX5.out.below hW
      exact ⟨co 0 (by omega), co 1 (by omega), co 2 (by omega), hx.cell 0 rfl, hx.cell 1 rfl, hx.cell 2 rfl⟩)
    clear hkl hfar h0f HOO hb5 hb4 hown4 hgr4 hS4 HB5 CN HP3 HB3 HX2 x0 x1 hS5 hbw hD0 HKC e1
    go_wp2_with (at_make; refine wpList_mk1 tBools (by rfl) rfl _ _ rfl w5.heap.size N rfl rfl ?m1 (by decide) (Nat.le_refl _) ?m2)
    case m1 => omega
    case m2 =>
      intro ta tc w6 hT hb6
      have HT := Kp.mk hT
      have HB6 := Kp.mk hb6
      clear hT hb6
      go_wp2
      go_loopw [15, 16] (fun v15 v16 wr => ∃ (i : Nat) (T : List Bool), i ≤ k + 1 ∧ v16 = .int .i64 i ∧ v15 = .int .i64 (lastF far out i) ∧ Kp (ToldOf out i N T) ∧ Kp (wr.ownsRow w5.heap.size 4 1 (.slice ta N tc) N (bls T)) ∧ Kp (Below w5.heap.size w5 wr)) (fun _ v16 _ => k + 1 - (intOf v16).toNat)
      case atStart => exact ⟨0, List.replicate N false, by omega, rfl, rfl, ⟨told_start out N⟩, ⟨by have h := HT.out; rwa [show List.replicate N (Value.bool false) = bls (List.replicate N false) by simp [bls]] at h⟩, HB6⟩
      case round =>
        clear HT HB6
        obtain ⟨i, T, hi, rfl, rfl, HTD, HTO, HBR⟩ := hrel
        by_cases hik : i < k + 1
        · have hp := HON.out i hik
          have hle := last_le HIN.out HF0.out (show i < out.length by rw [HOL.out]; exact hik)
          have c0 := later_cell (HOC.out wr HBR.out i hik)
          obtain ⟨p0, p1, p2, x0, x1, x2⟩ := HPC.out wr HBR.out (out.getD i 0) hp
          have CA1 := Kp.mk (fun (x : Later wr) => CA.out x.val (out.getD i 0) hp)
          obtain ⟨tb, rfl, htb, _⟩ := own_some HTO.out hN0.1
          have ht0 : wr.cell? ⟨tb, out.getD i 0, none⟩ = some (.bool false) := by
            have h1 := HTO.out.cellAt (out.getD i 0) (by rw [Nat.mul_one]; exact hp)
            rw [h1]
            have h2 := HTD.out.is_ _ hp
            rw [decide_eq_false (told_new HIN.out (by rw [HOL.out]; exact hik)), getD_at _ _ (by rw [HTD.out.len]; exact hp)] at h2
            unfold bls
            rw [List.getElem?_map, List.getElem?_eq_getElem (by rw [HTD.out.len]; exact hp), h2]; rfl
          have HTS := Kp.mk (told_step HTD.out (by rw [HOL.out]; exact hik) hp)
          have HLS := Kp.mk (show far (out.getD i 0) = lastF far out (i + 1) from rfl)
          have HHC := Kp.mk (fun (W : World) (hW : Below w5.heap.size w5 W) => And.intro (HOC.out W hW i hik) (HPC.out W hW (out.getD i 0) hp))
          have CAW := Kp.mk (fun (W : World) => CA.out W (out.getD i 0) hp)
          generalize out.getD i 0 = p at *
          generalize L.getD p pt0 = pt at *
          obtain ⟨f, hf⟩ : ∃ f, far p = f := ⟨_, rfl⟩
          rw [hf] at hle HLS CA1 CAW
          obtain ⟨lst, hlst⟩ : ∃ z, lastF far out i = z := ⟨_, rfl⟩
          rw [hlst] at hle ⊢
          clear hf hlst
          have c0' := c0
          have p0' := later_cell p0
          have p1' := later_cell p1
          have p2' := later_cell p2
          have x0' := later_cell x0
          have x1' := later_cell x1
          have x2' := later_cell x2
          have t0' := later_cell ht0
          have hpz : (p : Int) < N := by omega
          have hiz : (i : Int) < (k : Int) + 1 := by omega
          have q1 : decide ((p : Int) < 0) = false := decide_eq_false (by omega)
          have q2 : decide ((p : Int) ≥ N) = false := decide_eq_false (by omega)
          have q3 : decide (f < lst) = false := decide_eq_false (by omega)
          have q4 : ¬ N ≤ p := by omega
          have htN : N ≤ tc := (own_slc HTO.out).le
          have hpN : N ≤ sc2 := (SlF.below HP5.out HBR.out).le
          clear p0 p1 p2 x0 x1 x2 ht0 c0
          go_wp2
          refine region_later (by kernel_rfl) (by kernel_rfl) ?_
          iterate 36 (go_big_quiet_step ((go_at_call 28; exact q_later (CA1.out _))))
          refine wpQuiet_nil ?_
          rintro w7 ⟨xl, rfl⟩
          have HB7 := Kp.mk (HBR.out.trans (xl.le.mono HBR.out.size))
          have HTO7 := Kp.mk (own_below HTO.out xl.le)
          have t7 := t0' xl
          clear c0' p0' p1' p2' x0' x1' x2' t0' CA1 HTO HBR
          generalize xl.val = w7 at *
          have f7 := HTO7.out.frozenAt p
          have o7 := (HHC.out w7 HB7.out).1
          have HTO8 := Kp.mk (show (w7.setCell ⟨tb, p, none⟩ (.bool true)).ownsRow w5.heap.size 4 1 (.slice (some ⟨tb, 0, none⟩) N tc) N (bls (T.set p true)) from by
            rw [← bls_set]; exact (HTO7.out.stored p (.bool true)).1)
          have HB8 := Kp.mk (HB7.out.trans (below_of_grown (grown_set w7 tb p (.bool true)) HB7.out.size (fun q hq => by cases hq; exact htb)))
          clear HTO7
          obtain ⟨w8, hw8⟩ : ∃ w8, w7.setCell ⟨tb, p, none⟩ (.bool true) = w8 := ⟨_, rfl⟩
          rw [hw8] at HTO8 HB8
          go_wp2
          clear hw8 t7 f7 o7
          obtain ⟨c0, p0, p1, p2, x0, x1, x2⟩ := HHC.out w8 HB8.out
          have c0' := later_cell c0
          have p0' := later_cell p0
          have p1' := later_cell p1
          have p2' := later_cell p2
          have x0' := later_cell x0
          have x1' := later_cell x1
          have x2' := later_cell x2
          have CA8 := Kp.mk (fun (x : Later w8) => CAW.out x.val)
          clear c0 p0 p1 p2 x0 x1 x2 HHC
          refine region_later (by kernel_rfl) (by kernel_rfl) ?_
          iterate 10 (go_big_quiet_step ((go_at_call 28; exact q_later (CA8.out _))))
          refine wpQuiet_nil ?_
          rintro w9 ⟨xl9, rfl⟩
          have HB9 := Kp.mk (HB8.out.trans (xl9.le.mono HB8.out.size))
          have HTO9 := Kp.mk (own_below HTO8.out xl9.le)
          clear c0' p0' p1' p2' x0' x1' x2' CA8 CAW HTO8 HB8 HB7
          generalize xl9.val = w9 at *
          go_wp2
          go_roundw
          case rel => exact ⟨i + 1, T.set p true, by omega, by go_num, by rw [← HLS.out], HTS, HTO9, HB9⟩
          case measure => simp [intOf]; omega
        · obtain rfl : i = k + 1 := by omega
          obtain ⟨tb, rfl, htb, _⟩ := own_some HTO.out hN0.1
          have HTA := Kp.mk (show out.take (k + 1) = out from List.take_of_length_le (by rw [HOL.out]; exact Nat.le_refl _))
          have htN : N ≤ tc := (own_slc HTO.out).le
          have hpN : N ≤ sc2 := (SlF.below HP5.out HBR.out).le
          have hkz : ¬ (((k + 1 : Nat) : Int) < (k : Int) + 1) := by omega
          have HKS := Kp.mk (show ((k + 1 : Nat) : Int) = (k : Int) + 1 by omega)
          rw [HKS.out]
          have HRL := Kp.mk (fun s hs hn => rest_le HIN.out HOL.out (s := s) hs hn)
          obtain ⟨lst, hlst⟩ : ∃ z, lastF far out (k + 1) = z := ⟨_, rfl⟩
          rw [hlst] at HRL ⊢
          clear hlst
          obtain ⟨wo, rfl⟩ : ∃ wo : World, wo = wr := ⟨_, rfl⟩
          go_wp2
          go_loopw [17] (fun v17 wr => ∃ j : Nat, j ≤ N ∧ v17 = .int .i64 j ∧ Kp (Below wo.heap.size wo wr)) (fun v17 _ => N - (intOf v17).toNat)
          case atStart => exact ⟨0, by omega, rfl, ⟨Below.refl _ _⟩⟩
          case round =>
            obtain ⟨j, hj, rfl, HBJ⟩ := hrel
            by_cases hjN : j < N
            · have HB5J := Kp.mk (HBR.out.trans (HBJ.out.mono HBR.out.size))
              have htj : wr.cell? ⟨tb, j, none⟩ = some (.bool (T.getD j false)) := by
                have h1 := (own_below HTO.out HBJ.out).cellAt j (by rw [Nat.mul_one]; exact hjN)
                rw [h1]
                unfold bls
                rw [List.getElem?_map, List.getElem?_eq_getElem (by rw [HTD.out.len]; exact hjN), getD_at _ _ (by rw [HTD.out.len]; exact hjN)]; rfl
              rw [HTD.out.is_ j hjN, HTA.out] at htj
              obtain ⟨p0, p1, p2, x0, x1, x2⟩ := HPC.out wr HB5J.out j hjN
              have CA1 := Kp.mk (fun (x : Later wr) => CA.out x.val j hjN)
              have t0' := later_cell htj
              have p0' := later_cell p0
              have p1' := later_cell p1
              have p2' := later_cell p2
              have x0' := later_cell x0
              have x1' := later_cell x1
              have x2' := later_cell x2
              have hjz : (j : Int) < N := by omega
              have hor : (j ∈ out ∧ Kp True) ∨ (j ∉ out ∧ Kp (lst ≤ far j)) := by
                by_cases hin : j ∈ out
                · exact .inl ⟨hin, ⟨trivial⟩⟩
                · exact .inr ⟨hin, ⟨HRL.out j hjN hin⟩⟩
              generalize L.getD j pt0 = pt at *
              obtain ⟨f, hf⟩ : ∃ f, far j = f := ⟨_, rfl⟩
              rw [hf] at CA1 hor
              clear htj p0 p1 p2 x0 x1 x2 hf
              rcases hor with ⟨hin, HLF⟩ | ⟨hin, HLF⟩
              · rw [decide_eq_true hin] at t0'
                clear hin
                go_wp2
                refine region_later (by kernel_rfl) (by kernel_rfl) ?_
                iterate 15 (go_big_quiet_step ((go_at_call 28; exact q_later (CA1.out _))))
                refine wpQuiet_nil ?_
                rintro w9 ⟨xl9, rfl⟩
                have HB9 := Kp.mk (HBJ.out.trans (xl9.le.mono HBJ.out.size))
                clear t0' p0' p1' p2' x0' x1' x2' CA1
                generalize xl9.val = w9 at *
                go_wp2
                go_roundw
                case rel => exact ⟨j + 1, by omega, by go_num, HB9⟩
                case measure => simp [intOf]; omega
              · rw [decide_eq_false hin] at t0'
                have q3 : decide (f < lst) = false := decide_eq_false (by have := HLF.out; omega)
                clear hin
                go_wp2
                refine region_later (by kernel_rfl) (by kernel_rfl) ?_
                iterate 15 (go_big_quiet_step ((go_at_call 28; exact q_later (CA1.out _))))
                refine wpQuiet_nil ?_
                rintro w9 ⟨xl9, rfl⟩
                have HB9 := Kp.mk (HBJ.out.trans (xl9.le.mono HBJ.out.size))
                clear t0' p0' p1' p2' x0' x1' x2' CA1
                generalize xl9.val = w9 at *
                go_wp2
                go_roundw
                case rel => exact ⟨j + 1, by omega, by go_num, HB9⟩
                case measure => simp [intOf]; omega
            · obtain rfl : j = N := by omega
              have HFB := Kp.mk (below_step HBW5.out (HBR.out.trans (HBJ.out.mono HBR.out.size)))
              clear HBJ HBR
              go_wp2
              go_ret
              exact ⟨rfl, HFB.out⟩

end Go.Proofs.Ytlmdlholmlbcbaa

/- SkyCovers: the walk. -/
import Derived.Test.YtmfmknpkeniifaaSky
import Derived.Test.YtmfmknpkeniifaaSkyA
import Derived.Test.YtmfmknpkeniifaaSkyW1
import Derived.Test.YtmfmknpkeniifaaBool
namespace Go.Proofs.Ytmfmknpkeniifaa
set_option linter.unusedVariables false
open Go.RowKit

/-- What the sky of n points is: T, from the left on. -/
structure IsSky (n : Nat) (L : List Pt) (T : List Nat) : Prop where
  lt : ∀ i, i < T.length → T.getD i 0 < n
  once : ∀ i j, i < j → j < T.length → T.getD i 0 ≠ T.getD j 0
  rise : ∀ i, i + 1 < T.length → (L.getD (T.getD i 0) pt0).x ≤ (L.getD (T.getD (i + 1) 0) pt0).x ∧ (L.getD (T.getD (i + 1) 0) pt0).y ≤ (L.getD (T.getD i 0) pt0).y
  free : ∀ i, i < n → i ∈ T → ∀ k, k < T.length → ¬ Above (L.getD (T.getD k 0) pt0) (L.getD i pt0)
  cov : ∀ i, i < n → i ∉ T → ∃ k, k < T.length ∧ Above (L.getD (T.getD k 0) pt0) (L.getD i pt0)
  ne : 0 < n → 0 < T.length
  few : T.length ≤ n
theorem sky_of {n : Nat} {L : List Pt} {O S : List Nat} {top : Pt} (hO : IsOrder L O) (hn : L.length = n) (h : SkyInv (gOf L) (met O n) S top) : IsSky n L S.reverse := by
  have hl := hO.len
  have hin : ∀ i, i < n → i ∈ met O n := fun i hi => by
    have := hO.all i (by omega)
    rwa [hl, hn] at this
  have hout : ∀ i, i ∈ met O n → i < n := fun i hi => by
    obtain ⟨k, h1, h2, rfl⟩ := met_mem hi
    have := hO.lt k h1
    omega
  have hnd : (met O n).Nodup := by
    unfold met
    exact (List.take_sublist _ _).nodup ((List.reverse_perm O).nodup_iff.2 hO.nodup)
  have hSnd : S.reverse.Nodup := (List.reverse_perm S).nodup_iff.2 (h.sub.nodup hnd)
  have hmem : ∀ k, k < S.reverse.length → S.reverse.getD k 0 ∈ S := fun k hk => by
    rw [getD_at _ _ hk]
    exact List.mem_reverse.1 (List.getElem_mem hk)
  have hrl : S.reverse.length = S.length := List.length_reverse
  refine ⟨fun i hi => hout _ (h.sub.subset (hmem i hi)), fun i j hij hj e => ?_, fun i hi => ?_, fun i hi hT k hk => h.free i (List.mem_reverse.1 hT) _ (h.sub.subset (hmem k hk)), fun i hi hT => ?_, fun h0 => ?_, by have h1 := h.sub.length_le; rw [met_length O n (by omega)] at h1; omega⟩
  · rw [getD_at _ _ (by omega), getD_at _ _ hj] at e
    exact List.pairwise_iff_getElem.1 hSnd i j (by omega) hj hij e
  · have hp := List.pairwise_iff_getElem.1 h.chain (S.length - 1 - (i + 1)) (S.length - 1 - i) (by omega) (by omega) (by omega)
    have e1 : S.reverse.getD i 0 = S[S.length - 1 - i]'(by omega) := by rw [getD_at _ _ (by omega), List.getElem_reverse]
    have e2 : S.reverse.getD (i + 1) 0 = S[S.length - 1 - (i + 1)]'(by omega) := by rw [getD_at _ _ (by omega), List.getElem_reverse]
    rw [e1, e2]
    exact hp
  · rcases h.cov i (hin i hi) with h1 | ⟨o, ho, ha⟩
    · exact absurd (List.mem_reverse.2 h1) hT
    · obtain ⟨k, hk, rfl⟩ := List.getElem_of_mem (List.mem_reverse.2 ho)
      refine ⟨k, hk, ?_⟩
      rw [getD_at _ _ hk]
      exact ha
  · rw [hrl]
    have := h.ne (fun e => by have := hin 0 h0; rw [e] at this; simp at this)
    exact List.length_pos_iff.2 this
/-- Which of n places are among the first k of T. -/
def inK (T : List Nat) (n k : Nat) : List Bool := (List.range n).map fun x => decide (x ∈ T.take k)
theorem inK_length (T : List Nat) (n k : Nat) : (inK T n k).length = n := by simp [inK]
theorem inK_at (T : List Nat) (n k x : Nat) (h : x < n) : (inK T n k).getD x false = decide (x ∈ T.take k) := by
  rw [getD_at _ _ (by rw [inK_length]; exact h)]
  simp [inK]
theorem inK_zero (T : List Nat) (n : Nat) : inK T n 0 = List.replicate n false := by
  apply List.ext_getElem
  · simp [inK]
  · intro i h1 h2; simp [inK]
theorem inK_succ (T : List Nat) (n k : Nat) (hk : k < T.length) (ht : T.getD k 0 < n) : (inK T n k).set (T.getD k 0) true = inK T n (k + 1) := by
  apply List.ext_getElem
  · simp [inK]
  · intro i h1 h2
    have hg : ∀ m (h : i < (inK T n m).length), (inK T n m)[i] = decide (i ∈ T.take m) := fun m h => by simp [inK]
    rw [List.getElem_set, hg k (by simpa using h1), hg (k + 1) h2, List.take_succ_eq_append_getElem hk, getD_at _ _ hk]
    by_cases e : T[k] = i
    · rw [if_pos e]; simp [e]
    · rw [if_neg e]
      congr 1
      rw [eq_iff_iff, List.mem_append, List.mem_singleton]
      constructor
      · intro h; exact .inl h
      · rintro (h | h)
        · exact h
        · exact absurd h.symm e
attribute [irreducible] inK

/-- One of the first k of T is above place i: then u is true, else false. -/
def UnderK (L : List Pt) (T : List Nat) (i k : Nat) (u : Bool) : Prop := u = true ↔ ∃ j, j < k ∧ Above (L.getD (T.getD j 0) pt0) (L.getD i pt0)
theorem under_zero (L : List Pt) (T : List Nat) (i : Nat) : UnderK L T i 0 false := ⟨fun h => (by cases h), fun ⟨j, h, _⟩ => by omega⟩
theorem under_true {L : List Pt} {T : List Nat} {i k : Nat} (h : UnderK L T i k true) : UnderK L T i (k + 1) true := ⟨fun _ => by
  obtain ⟨j, h1, h2⟩ := h.1 rfl
  exact ⟨j, by omega, h2⟩, fun _ => rfl⟩
theorem under_new {L : List Pt} {T : List Nat} {i k : Nat} {u : Bool} (ha : Above (L.getD (T.getD k 0) pt0) (L.getD i pt0)) : UnderK L T i (k + 1) true := ⟨fun _ => ⟨k, by omega, ha⟩, fun _ => rfl⟩
theorem under_keep {L : List Pt} {T : List Nat} {i k : Nat} (h : UnderK L T i k false) (ha : ¬ Above (L.getD (T.getD k 0) pt0) (L.getD i pt0)) : UnderK L T i (k + 1) false := ⟨fun h => (by cases h), fun ⟨j, h1, h2⟩ => by
  by_cases e : j = k
  · rw [e] at h2; exact absurd h2 ha
  · exact h.2 ⟨j, by omega, h2⟩⟩
/-- Who is in is not under; who is not in is under. -/
theorem under_end {n : Nat} {L : List Pt} {T : List Nat} {i r : Nat} {u : Bool} (h : IsSky n L T) (hr : T.length = r) (hi : i < n) (hu : UnderK L T i r u) : (decide (i ∈ T.take r) == u) = false := by
  rw [List.take_of_length_le (by omega)]
  by_cases hm : i ∈ T
  · rw [decide_eq_true hm]
    cases u with
    | false => rfl
    | true =>
      obtain ⟨j, h1, h2⟩ := hu.1 rfl
      exact absurd h2 (h.free i hi hm j (by omega))
  · rw [decide_eq_false hm]
    cases u with
    | true => rfl
    | false =>
      obtain ⟨k, h1, h2⟩ := h.cov i hi hm
      have := hu.2 ⟨k, by omega, h2⟩
      cases this
attribute [irreducible] UnderK

theorem sky_n (a : Option Addr) (cap n : Nat) (L : List Pt) (w : World) (h : SlF ptL 3 w a n cap L) (h0 : 0 < n) (hn : n ≤ 150) (hN : ∀ p ∈ L, p.Near) :
    Calls Try.prog 34 #[.slice a n cap] w (fun e w' => ∃ ra r rc T, e = .returned (.tuple #[.slice ra r rc, .int .i64 0]) ∧ Kp (IsSky n L T) ∧ Kp (T.length = r) ∧ Kp (SlI w' ra rc (T.map Int.ofNat)) ∧ Below w.heap.size w w') := by
  obtain ⟨m, rfl⟩ : ∃ m, n = m + 1 := ⟨n - 1, by omega⟩
  have hl := h.len ptL_len (by omega)
  refine (sky_any a cap m L w h hn hN).mono ?_
  rintro e w' ⟨ra, r, rc, O, S, rfl, HO, HI, HL, HS, hb⟩
  obtain ⟨top, hI⟩ := HI.out
  exact ⟨ra, r, rc, S.reverse, rfl, ⟨sky_of HO.out hl hI⟩, ⟨by rw [List.length_reverse]; exact HL.out⟩, HS, hb⟩
theorem sky_len {n : Nat} {L : List Pt} {T : List Nat} (h : IsSky n L T) : T.length ≤ n := h.few

set_option maxRecDepth 100000 in
set_option maxHeartbeats 16000000 in
theorem walk_SkyCovers (a0 : Option Addr) (len0 cap0 : Nat) (z0 : List Int) (w : World) (w0 : IsFlat 3 w a0 len0 cap0 z0) :
    Calls Try.prog 10 #[.slice a0 len0 cap0] w fun e w' => e = .returned (.bool true) ∧ Below w.heap.size w w' := by
  obtain ⟨S, hS, wS, nS⟩ := spots_in w0
  have C1 := Kp.mk (points_any a0 cap0 len0 70 15 S w hS (by unfold maxLen at nS; omega) (by omega) (by omega) (by omega) wS)
  have HSL := Kp.mk (hS.len ptL_len (by omega))
  clear w0 hS wS
  go_enter Try.func10, Try.ntmps10
  go_wp2_with fail
  refine C1.out.mono ?_
  rintro e w1 ⟨sa, sc, r, rfl, HR, HO, hb1⟩
  have HB1 := Kp.mk hb1
  have hr70 : r ≤ 70 := by have := HR.out; rw [ptsOf_length] at this; omega
  have HBD := Kp.mk (ptsOf_bd S 70 15 (by omega))
  have hsz := hb1.size
  generalize ptsOf S 70 15 = P at *
  clear hb1 C1
  go_wp2_with (at_builtin; refine wpList_push tPts rfl _ _ rfl w.heap.size sa r sc _ rfl HO.out 1 1 _ rfl rfl ?d1 (by decide) ?d2 (by decide) hsz ?d4)
  case d1 => simp [Value.oneCell']
  case d2 => omega
  case d4 =>
    intro pa pc w2 ho2 hb2
    obtain ⟨L, hL⟩ : ∃ L : List Pt, L = P ++ [⟨3, 3, 0⟩] := ⟨_, rfl⟩
    generalize hn : r + 1 = n at *
    have HLL := Kp.mk (show L.length = n by rw [hL, List.length_append, HR.out, ← hn]; rfl)
    have HO2 := Kp.mk (show w2.ownsRow w.heap.size 26 3 (.slice pa n pc) n (flat ptL L) from by
      rw [hL, flat_append]
      have e : flat ptL [(⟨3, 3, 0⟩ : Pt)] = [.int .i64 3, .int .i64 3, .int .i64 0] := by simp [flat, ptL]
      rw [e]; exact ho2)
    have HP2 := Kp.mk (show SlF ptL 3 w2 pa n pc L from own_slc HO2.out)
    have HB2 := Kp.mk (HB1.out.trans hb2)
    have HNR := Kp.mk (show ∀ p ∈ L, p.Near from fun p hp => by
      rw [hL] at hp
      rcases List.mem_append.1 hp with hp | hp
      · have := HBD.out p hp; unfold Pt.Near; omega
      · rw [List.mem_singleton.1 hp]; unfold Pt.Near; simp)
    have hn71 : n ≤ 71 := by omega
    have hn0 : 0 < n := by omega
    clear ho2 hb2 hL HO HBD HO2 hsz hn hr70 HR
    go_wp2_with (at_builtin; refine wpList_cat tPts rfl _ _ rfl w2.heap.size none 0 0 [] rfl (World.ownsRow_nil _ _ _ _) _ _ _ _ rfl HP2.out (flat_one ptL_one L) ?c1 (by decide) (Nat.le_refl _) ?c2)
    case c1 => omega
    case c2 =>
      intro qa qc w3 hown3 hbel3
      have HQ3 := Kp.mk (show SlF ptL 3 w3 qa n qc L from own_slc (by simpa using hown3))
      have HP3 := Kp.mk (SlF.below HP2.out hbel3)
      have HB3 := Kp.mk (HB2.out.trans (hbel3.mono HB2.out.size))
      clear hown3 hbel3 HP2
      go_wp2_with fail
      refine (sky_n qa qc n L w3 HQ3.out hn0 (by omega) HNR.out).mono ?_
      rintro e w4 ⟨ra, r, rc, T, rfl, HF, HRL, HRS, hb4⟩
      have HP4 := Kp.mk (SlF.below HP3.out hb4)
      have HB4 := Kp.mk (HB3.out.trans (hb4.mono HB3.out.size))
      have hr0 : 0 < r := by rw [← HRL.out]; exact HF.out.ne hn0
      have hrn : r ≤ n := by rw [← HRL.out]; exact sky_len HF.out
      have e0 : ¬ (r : Int) = 0 := by omega
      have e1 : ((r : Int) == 0) = false := by simpa using e0
      clear hb4 HP3 HQ3 HNR HB3 HB2 HB1
      obtain ⟨B, hB⟩ : ∃ B, B = w4.heap.size := ⟨_, rfl⟩
      have HBE := Kp.mk hB
      have hBle : B ≤ w4.heap.size := by omega
      clear hB
      go_wp2_with (at_make; refine wpList_mk1 tBools (by rfl) rfl _ _ rfl B n rfl rfl ?m1 (by decide) hBle ?m2)
      case m1 => omega
      case m2 =>
        intro ba bc w5 ho5 hb5
        obtain ⟨bb, rfl, hbb1, hbb2⟩ := own_some ho5 (by omega)
        have HI5 := Kp.mk (show w5.ownsRow B 4 1 (.slice (some ⟨bb, 0, none⟩) n bc) n (bls (inK T n 0)) from by
          rw [inK_zero]; simpa [bls] using ho5)
        have hb5' : Below w4.heap.size w4 w5 := by rw [← HBE.out]; exact hb5
        have HP5 := Kp.mk (SlF.below HP4.out hb5')
        have HR5 := Kp.mk (SlI.below HRS.out hb5')
        have HB5 := Kp.mk (below_step HB4.out hb5')
        have HPB := Kp.mk (show ∀ k, blk pa = some k → k < B from fun k hk => by
          obtain ⟨k', h1, h2⟩ := SlC.lt HP4.out (by rw [flat_length ptL_len, HLL.out]; omega)
          rw [h1] at hk; cases hk; rw [HBE.out]; exact h2)
        have HRB := Kp.mk (show ∀ k, blk ra = some k → k < B from fun k hk => by
          obtain ⟨k', h1, h2⟩ := SlC.lt HRS.out (by rw [ints_length, List.length_map, HRL.out]; exact hr0)
          rw [h1] at hk; cases hk; rw [HBE.out]; exact h2)
        have HWB := Kp.mk (show w.heap.size ≤ B from by rw [HBE.out]; exact HB4.out.size)
        clear ho5 hb5 hb5' HP4 HRS HB4
        obtain ⟨wo, rfl⟩ : ∃ wo : World, wo = w5 := ⟨_, rfl⟩
        go_wp2
        go_loopw [7] (fun i wr => ∃ (k : Nat), k ≤ r ∧ i = .int .i64 k ∧ Kp (wr.ownsRow B 4 1 (.slice (some ⟨bb, 0, none⟩) n bc) n (bls (inK T n k))) ∧ Kp (SlF ptL 3 wr pa n pc L) ∧ Kp (SlI wr ra rc (T.map Int.ofNat)) ∧ Kp (Below w.heap.size w wr)) (fun i _ => r - (intOf i).toNat)
        case atStart => exact ⟨0, Nat.zero_le _, rfl, HI5, HP5, HR5, HB5⟩
        case round =>
          obtain ⟨k, hk, rfl, HIK, HPK, HRK, HBK⟩ := hrel
          by_cases hlt : k < r
          · have htn := HF.out.lt k (by rw [HRL.out]; exact hlt)
            have hlen := inK_length T n k
            have cb : wr.cell? ⟨bb, T.getD k 0, none⟩ = some (.bool false) := by
              rw [HIK.out.cellAt (T.getD k 0) (by omega), List.getElem?_eq_getElem (by rw [bls_length, hlen]; exact htn), bls_get, ← getD_at (inK T n k) false (by rw [hlen]; exact htn), inK_at T n k _ htn]
              have : T.getD k 0 ∉ T.take k := fun hm => by
                obtain ⟨i, hi, e⟩ := List.getElem_of_mem hm
                rw [List.length_take] at hi
                rw [List.getElem_take] at e
                exact HF.out.once i k (by omega) (by rw [HRL.out]; exact hlt) (by rw [getD_at _ _ (by omega), e])
              rw [decide_eq_false this]
            have fb := HIK.out.frozenAt (T.getD k 0)
            have HIS := Kp.mk (inK_succ T n k (by rw [HRL.out]; exact hlt) htn)
            obtain ⟨rb, ro, rfl, ct⟩ := nat_cell HRK.out HRL.out k hlt
            obtain ⟨qb, qo, rfl, x0, x1, x2⟩ := pt_cells HPK.out (T.getD k 0) htn
            have htz : ((T.getD k 0 : Nat) : Int) < n := by omega
            have htz2 : ¬ (n : Int) ≤ ((T.getD k 0 : Nat) : Int) := by omega
            have htd1 : decide (((T.getD k 0 : Nat) : Int) < 0) = false := decide_eq_false (by omega)
            have htd2 : decide ((n : Int) ≤ ((T.getD k 0 : Nat) : Int)) = false := decide_eq_false (by omega)
            rcases Nat.eq_zero_or_pos k with hk0 | hk0
            · subst hk0
              rw [Nat.add_zero] at ct
              generalize T.getD 0 0 = t at *
              have hrz : (0 : Int) < r := by omega
              have tn2 : ¬ n ≤ t := by omega
              have lcb := later_cell cb
              have lct := later_cell ct
              have lx0 := later_cell x0
              have lx1 := later_cell x1
              clear cb ct x0 x1 x2 fb
              go_wp2
              refine region_later (by kernel_rfl) (by kernel_rfl) ?_
              iterate 67 (go_big_quiet_step (fail))
              refine wpQuiet_nil ?_
              rintro w' ⟨xl, rfl⟩
              have HIX := Kp.mk (own_below HIK.out xl.le)
              have HPX := Kp.mk (SlF.below HPK.out xl.le)
              have HRX := Kp.mk (SlI.below HRK.out xl.le)
              have HBX := Kp.mk (HBK.out.trans (xl.le.mono HBK.out.size))
              have cb' := lcb xl
              have ct' := lct xl
              have fb' : xl.val.frozen? ⟨bb, t, none⟩ = false := HIX.out.frozenAt t
              clear lcb lct lx0 lx1
              generalize xl.val = w6 at *
              have hg : w6.grownBy (w6.setCell ⟨bb, t, none⟩ (.bool true)) (some bb) := grown_set w6 bb t (.bool true)
              have HPS := Kp.mk (show SlF ptL 3 (w6.setCell ⟨bb, t, none⟩ (.bool true)) (some ⟨qb, qo, none⟩) n pc L from SlC.keep HPX.out hg (fun q hq e => by cases hq; have := HPB.out _ e; omega))
              have HRSS := Kp.mk (show SlI (w6.setCell ⟨bb, t, none⟩ (.bool true)) (some ⟨rb, ro, none⟩) rc (T.map Int.ofNat) from SlC.keep HRX.out hg (fun q hq e => by cases hq; have := HRB.out _ e; omega))
              have HIN := Kp.mk (show (w6.setCell ⟨bb, t, none⟩ (.bool true)).ownsRow B 4 1 (.slice (some ⟨bb, 0, none⟩) n bc) n (bls (inK T n (0 + 1))) from by
                rw [← HIS.out, ← bls_set]
                exact (HIX.out.stored t (.bool true)).1)
              have HBN := Kp.mk (show Below w.heap.size w (w6.setCell ⟨bb, t, none⟩ (.bool true)) from HBX.out.trans (below_of_grown hg HBX.out.size (fun q hq => by cases hq; have := HWB.out; omega)))
              clear HIS hg HIX HPX HRX HBX
              go_wp2
              go_roundw
              case rel => exact ⟨0 + 1, by omega, by go_num, HIN, HPS, HRSS, HBN⟩
              case measure => simp [intOf]; omega
            · obtain ⟨j, rfl⟩ : ∃ j, k = j + 1 := ⟨k - 1, by omega⟩
              have htj := HF.out.lt j (by rw [HRL.out]; omega)
              obtain ⟨_, _, e3, cj⟩ := nat_cell HRK.out HRL.out j (by omega)
              simp only [Option.some.injEq, Addr.mk.injEq, and_true] at e3
              obtain ⟨rfl, rfl⟩ := e3
              obtain ⟨_, _, e3, y0, y1, y2⟩ := pt_cells HPK.out (T.getD j 0) htj
              simp only [Option.some.injEq, Addr.mk.injEq, and_true] at e3
              obtain ⟨rfl, rfl⟩ := e3
              obtain ⟨r1, r2⟩ := HF.out.rise j (by rw [HRL.out]; exact hlt)
              generalize L.getD (T.getD (j + 1) 0) pt0 = p at *
              generalize L.getD (T.getD j 0) pt0 = q at *
              generalize T.getD (j + 1) 0 = t at *
              generalize T.getD j 0 = u at *
              have huz : (u : Int) < n := by omega
              have k0z : decide ((0 : Int) < ((j + 1 : Nat) : Int)) = true := decide_eq_true (by omega)
              have k0y : decide ((0 : Int) < (j : Int) + 1) = true := decide_eq_true (by omega)
              have t1 : decide (p.x < q.x) = false := decide_eq_false (by omega)
              have t2 : decide (q.y < p.y) = false := decide_eq_false (by omega)
              have t3 : ¬ p.x < q.x := by omega
              have t4 : ¬ q.y < p.y := by omega
              have tn2 : ¬ n ≤ t := by omega
              have ej : IntKind.i64.wrap (((j + 1 : Nat) : Int) - 1) = (j : Int) := by rw [show ((j + 1 : Nat) : Int) - 1 = j by omega]; exact IntWalk.i64_in _ (by omega)
              have ej2 : IntKind.i64.wrap ((j : Int) + 1 - 1) = (j : Int) := by rw [show (j : Int) + 1 - 1 = j by omega]; exact IntWalk.i64_in _ (by omega)
              have hjr : (j : Int) < r := by omega
              have hjr1 : (j : Int) + 1 < r := by omega
              have hj0 : (0 : Int) ≤ (j : Int) + 1 := by omega
              have lcb := later_cell cb
              have lct := later_cell ct
              have lcj := later_cell cj
              have lx0 := later_cell x0
              have lx1 := later_cell x1
              have ly0 := later_cell y0
              have ly1 := later_cell y1
              clear cb ct cj x0 x1 x2 y0 y1 y2 fb r1 r2 hk0
              go_wp2
              refine region_later (by kernel_rfl) (by kernel_rfl) ?_
              iterate 67 (go_big_quiet_step (fail))
              refine wpQuiet_nil ?_
              rintro w' ⟨xl, rfl⟩
              have HIX := Kp.mk (own_below HIK.out xl.le)
              have HPX := Kp.mk (SlF.below HPK.out xl.le)
              have HRX := Kp.mk (SlI.below HRK.out xl.le)
              have HBX := Kp.mk (HBK.out.trans (xl.le.mono HBK.out.size))
              have cb' := lcb xl
              have ct' := lct xl
              have fb' : xl.val.frozen? ⟨bb, t, none⟩ = false := HIX.out.frozenAt t
              clear lcb lct lcj lx0 lx1 ly0 ly1
              generalize xl.val = w6 at *
              have hg : w6.grownBy (w6.setCell ⟨bb, t, none⟩ (.bool true)) (some bb) := grown_set w6 bb t (.bool true)
              have HPS := Kp.mk (show SlF ptL 3 (w6.setCell ⟨bb, t, none⟩ (.bool true)) (some ⟨qb, qo, none⟩) n pc L from SlC.keep HPX.out hg (fun q hq e => by cases hq; have := HPB.out _ e; omega))
              have HRSS := Kp.mk (show SlI (w6.setCell ⟨bb, t, none⟩ (.bool true)) (some ⟨rb, ro, none⟩) rc (T.map Int.ofNat) from SlC.keep HRX.out hg (fun q hq e => by cases hq; have := HRB.out _ e; omega))
              have HIN := Kp.mk (show (w6.setCell ⟨bb, t, none⟩ (.bool true)).ownsRow B 4 1 (.slice (some ⟨bb, 0, none⟩) n bc) n (bls (inK T n (j + 1 + 1))) from by
                rw [← HIS.out, ← bls_set]
                exact (HIX.out.stored t (.bool true)).1)
              have HBN := Kp.mk (show Below w.heap.size w (w6.setCell ⟨bb, t, none⟩ (.bool true)) from HBX.out.trans (below_of_grown hg HBX.out.size (fun q hq => by cases hq; have := HWB.out; omega)))
              clear HIS hg HIX HPX HRX HBX
              go_wp2
              go_roundw
              case rel => exact ⟨j + 1 + 1, by omega, by go_num, HIN, HPS, HRSS, HBN⟩
              case measure => simp [intOf]; omega
          · obtain rfl : k = r := by omega
            obtain ⟨wf, rfl⟩ : ∃ wf : World, wf = wr := ⟨_, rfl⟩
            clear HI5 HP5 HR5 HB5
            go_wp2
            go_loopw [8] (fun i wr => ∃ (x : Nat), x ≤ n ∧ i = .int .i64 x ∧ Kp (Below wf.heap.size wf wr)) (fun i _ => n - (intOf i).toNat)
            case atStart => exact ⟨0, Nat.zero_le _, rfl, ⟨Below.refl _ _⟩⟩
            case round =>
              obtain ⟨x, hx, rfl, HBX⟩ := hrel
              by_cases hxl : x < n
              · obtain ⟨wo2, rfl⟩ : ∃ wo2 : World, wo2 = wr := ⟨_, rfl⟩
                go_wp2
                go_loopw [9, 10] (fun t i wr => ∃ (y : Nat) (u : Bool), y ≤ k ∧ t = .bool u ∧ i = .int .i64 y ∧ Kp (UnderK L T x y u) ∧ Kp (Below wf.heap.size wf wr)) (fun _ i _ => k - (intOf i).toNat)
                case atStart => exact ⟨0, false, Nat.zero_le _, rfl, rfl, ⟨under_zero _ _ _⟩, HBX⟩
                case round =>
                  obtain ⟨y, u, hy, rfl, rfl, HU, HBY⟩ := hrel
                  by_cases hyl : y < k
                  · cases u with
                    | true =>
                      have HU' := Kp.mk (under_true HU.out)
                      go_wp2
                      refine region_later (by kernel_rfl) (by kernel_rfl) ?_
                      iterate 16 (go_big_quiet_step (fail))
                      refine wpQuiet_nil ?_
                      rintro w' ⟨xl, rfl⟩
                      have HB6 := Kp.mk (HBY.out.trans (xl.le.mono HBY.out.size))
                      go_wp2
                      go_roundw
                      case rel => exact ⟨y + 1, true, by omega, rfl, by go_num, HU', HB6⟩
                      case measure => simp [intOf]; omega
                    | false =>
                      have htn := HF.out.lt y (by rw [HRL.out]; exact hyl)
                      obtain ⟨rb, ro, rfl, ct⟩ := nat_cell (SlI.below HRK.out HBY.out) HRL.out y hyl
                      obtain ⟨qb, qo, rfl, x0, x1, x2⟩ := pt_cells (SlF.below HPK.out HBY.out) (T.getD y 0) htn
                      obtain ⟨_, _, e3, y0, y1, y2⟩ := pt_cells (SlF.below HPK.out HBY.out) x hxl
                      simp only [Option.some.injEq, Addr.mk.injEq, and_true] at e3
                      obtain ⟨rfl, rfl⟩ := e3
                      have HNEW := Kp.mk (under_new (L := L) (T := T) (i := x) (k := y) (u := false))
                      have HKEEP := Kp.mk (under_keep HU.out)
                      generalize L.getD (T.getD y 0) pt0 = p at *
                      generalize L.getD x pt0 = q at *
                      generalize T.getD y 0 = t at *
                      have htz : (t : Int) < n := by omega
                      have htz2 : ¬ (n : Int) ≤ t := by omega
                      have r0 := later_cell x0
                      have r1 := later_cell x1
                      have r2 := later_cell x2
                      have s0 := later_cell y0
                      have s1 := later_cell y1
                      have s2 := later_cell y2
                      have u1 := later_cell ct
                      by_cases hab : Above p q
                      · have CA := Kp.mk (fun W => pabove_t p q hab W)
                        have HN := Kp.mk (HNEW.out hab)
                        clear hab HNEW HKEEP ct x0 x1 x2 y0 y1 y2
                        go_wp2
                        refine region_later (by kernel_rfl) (by kernel_rfl) ?_
                        iterate 16 (go_big_quiet_step ((go_at_call 33; exact q_later (CA.out _))))
                        refine wpQuiet_nil ?_
                        rintro w' ⟨xl, rfl⟩
                        have HB6 := Kp.mk (HBY.out.trans (xl.le.mono HBY.out.size))
                        clear r0 r1 r2 s0 s1 s2 u1 CA
                        go_wp2
                        go_roundw
                        case rel => exact ⟨y + 1, true, by omega, rfl, by go_num, HN, HB6⟩
                        case measure => simp [intOf]; omega
                      · have CA := Kp.mk (fun W => pabove_f p q hab W)
                        have HN := Kp.mk (HKEEP.out hab)
                        clear hab HNEW HKEEP ct x0 x1 x2 y0 y1 y2
                        go_wp2
                        refine region_later (by kernel_rfl) (by kernel_rfl) ?_
                        iterate 16 (go_big_quiet_step ((go_at_call 33; exact q_later (CA.out _))))
                        refine wpQuiet_nil ?_
                        rintro w' ⟨xl, rfl⟩
                        have HB6 := Kp.mk (HBY.out.trans (xl.le.mono HBY.out.size))
                        clear r0 r1 r2 s0 s1 s2 u1 CA
                        go_wp2
                        go_roundw
                        case rel => exact ⟨y + 1, false, by omega, rfl, by go_num, HN, HB6⟩
                        case measure => simp [intOf]; omega
                  · obtain rfl : y = k := by omega
                    have cb : wr.cell? ⟨bb, x, none⟩ = some (.bool (decide (x ∈ T.take y))) := by
                      have hI := own_below HIK.out HBY.out
                      rw [hI.cellAt x (by omega), List.getElem?_eq_getElem (by rw [bls_length, inK_length]; exact hxl), bls_get, ← getD_at (inK T n y) false (by rw [inK_length]; exact hxl), inK_at T n y _ hxl]
                    have HEN := Kp.mk (under_end HF.out HRL.out hxl HU.out)
                    generalize decide (x ∈ T.take y) = v at *
                    have hne := HEN.out
                    go_wp2
                    go_roundw
                    case rel => exact ⟨x + 1, by omega, by go_num, HBY⟩
                    case measure => simp [intOf]; omega
              · obtain rfl : x = n := by omega
                have HBN := Kp.mk (HBK.out.trans (HBX.out.mono HBK.out.size))
                go_wp2
                go_ret
                exact ⟨rfl, HBN.out⟩

end Go.Proofs.Ytmfmknpkeniifaa

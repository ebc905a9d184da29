/- SkyMirsky: the walk. -/
import Derived.Test.YtmfmknpkeniifaaPtC
import Derived.Test.YtmfmknpkeniifaaSkyM
import Derived.Test.YtmfmknpkeniifaaSkyA
import Derived.Test.YtmfmknpkeniifaaFlatIn
namespace Go.Proofs.Ytmfmknpkeniifaa
set_option linter.unusedVariables false
open Go.RowKit

/-- What the layers of points are. -/
structure Lays (n : Nat) (L : List Pt) (R : List Nat) : Prop where
  up : ∀ a b, a < n → b < n → Above (L.getD a pt0) (L.getD b pt0) → R.getD a 0 < R.getD b 0
  lt : ∀ a, a < n → R.getD a 0 < n
  way : ∀ b, b < n → 0 < R.getD b 0 → ∃ a, a < n ∧ R.getD a 0 + 1 = R.getD b 0 ∧ Above (L.getD a pt0) (L.getD b pt0)
theorem lays_of {n : Nat} {L : List Pt} {O R : List Nat} {tops : List Int} (hO : IsOrder L O) (hn : L.length = n) (h : LayInv (gOf L) (met O n) (layOf R) tops) : Lays n L R := by
  have hl := hO.len
  have hin : ∀ i, i < n → i ∈ met O n := fun i hi => by
    have := hO.all i (by omega)
    rwa [hl, hn] at this
  have hout : ∀ i, i ∈ met O n → i < n := fun i hi => by
    obtain ⟨k, h1, h2, rfl⟩ := met_mem hi
    have := hO.lt k h1
    omega
  have hm := met_length O n (by omega)
  refine ⟨fun a b ha hb hab => h.up a (hin a ha) b (hin b hb) hab, fun a ha => ?_, fun b hb h0 => ?_⟩
  · have h1 := h.lt a (hin a ha)
    have h2 := h.few
    unfold layOf at h1
    omega
  · obtain ⟨a, ha, h1, h2⟩ := h.way b (hin b hb) h0
    exact ⟨a, hout a ha, h1, h2⟩

/-- Of the first x some is not 0: then s is true. -/
def SomeUp (R : List Nat) (x : Nat) (s : Bool) : Prop := ∀ y, y < x → 0 < R.getD y 0 → s = true
theorem someUp_zero (R : List Nat) : SomeUp R 0 false := fun y hy => by omega
theorem someUp_succ {R : List Nat} {x lx : Nat} {s s' : Bool} (h : SomeUp R x s) (hl : lx = R.getD x 0) (hs : s' = (s || decide ((0 : Int) < lx))) : SomeUp R (x + 1) s' := by
  intro y hy h0
  rw [hs]
  by_cases e : y = x
  · subst e
    rw [← hl] at h0
    simp [h0]
  · rw [h y (by omega) h0]; rfl
theorem someUp_at {R : List Nat} {x y : Nat} {s : Bool} (h : SomeUp R x s) (hy : y < x) (h0 : 0 < R.getD y 0) : s = true := h y hy h0
attribute [irreducible] SomeUp

/-- The last of the first y that stands one layer up and above; -1: there is none. -/
def Found (R : List Nat) (L : List Pt) (la a y : Nat) (u : Int) : Prop :=
  (u = -1 ∧ ∀ b, b < y → ¬ (R.getD b 0 + 1 = la ∧ Above (L.getD b pt0) (L.getD a pt0))) ∨ ∃ v : Nat, v < y ∧ u = v ∧ R.getD v 0 + 1 = la
theorem found_zero (R : List Nat) (L : List Pt) (la a : Nat) : Found R L la a 0 (-1) := .inl ⟨rfl, fun b hb => by omega⟩
theorem found_new {R : List Nat} {L : List Pt} {la a y : Nat} {u : Int} (h : Found R L la a y u) (e : R.getD y 0 + 1 = la) (hab : Above (L.getD y pt0) (L.getD a pt0)) : Found R L la a (y + 1) y := .inr ⟨y, by omega, rfl, e⟩
theorem found_keep {R : List Nat} {L : List Pt} {la a y : Nat} {u : Int} (h : Found R L la a y u) (e : ¬ (R.getD y 0 + 1 = la ∧ Above (L.getD y pt0) (L.getD a pt0))) : Found R L la a (y + 1) u := by
  rcases h with ⟨h1, h2⟩ | ⟨v, h1, h2, h3⟩
  · refine .inl ⟨h1, fun b hb => ?_⟩
    by_cases hby : b = y
    · rw [hby]; exact e
    · exact h2 b (by omega)
  · exact .inr ⟨v, by omega, h2, h3⟩
theorem found_end {R : List Nat} {L : List Pt} {la a y : Nat} {u : Int} (h : Found R L la a y u) (e : ∃ b, b < y ∧ R.getD b 0 + 1 = la ∧ Above (L.getD b pt0) (L.getD a pt0)) : ∃ v : Nat, v < y ∧ u = v ∧ R.getD v 0 + 1 = la := by
  rcases h with ⟨h1, h2⟩ | h
  · obtain ⟨b, hb, e1⟩ := e
    exact absurd e1 (h2 b hb)
  · exact h
attribute [irreducible] Found

theorem layers_n (a : Option Addr) (cap n : Nat) (L : List Pt) (w : World) (h : SlF ptL 3 w a n cap L) (h0 : 0 < n) (hm : n ≤ 150) (hN : ∀ p ∈ L, p.Near) :
    Calls Try.prog 32 #[.slice a n cap] w (LaysRet w n L) := by
  obtain ⟨m, rfl⟩ : ∃ m, n = m + 1 := ⟨n - 1, by omega⟩
  exact layers_any a cap m L w h hm hN

set_option maxRecDepth 100000 in
set_option maxHeartbeats 40000000 in
theorem walk_SkyMirsky (a0 : Option Addr) (len0 cap0 : Nat) (z0 : List Int) (a1 : Int) (w : World) (w0 : IsFlat 3 w a0 len0 cap0 z0) (w1 : (Lit.int .i64 a1).wf = true) :
    Calls Try.prog 9 #[.slice a0 len0 cap0, .int .i64 a1] w fun e w' => e = .returned (.bool true) ∧ Below w.heap.size w w' := by
  obtain ⟨S, hS, wS, nS⟩ := spots_in w0
  obtain ⟨i1, i2⟩ := wf_bd w1
  have C1 := Kp.mk (points_any a0 cap0 len0 50 12 S w hS (by unfold maxLen at nS; omega) (by omega) (by omega) (by omega) wS)
  have HSL := Kp.mk (hS.len ptL_len (by omega))
  clear w0 hS wS w1
  go_enter Try.func9, Try.ntmps9
  go_wp2_with fail
  refine C1.out.mono ?_
  rintro e w1 ⟨sa, sc, r, rfl, HR, HO, hb1⟩
  have HB1 := Kp.mk hb1
  have hr50 : r ≤ 50 := by have := HR.out; rw [ptsOf_length] at this; omega
  have HBD := Kp.mk (ptsOf_bd S 50 12 (by omega))
  have hsz := hb1.size
  generalize ptsOf S 50 12 = P at *
  clear hb1 C1
  go_wp2_with (at_builtin; refine wpList_push tPts rfl _ _ rfl w.heap.size sa r sc _ rfl HO.out 2 2 _ rfl rfl ?d1 (by decide) ?d2 (by decide) hsz ?d4)
  case d1 => simp [Value.oneCell']
  case d2 => omega
  case d4 =>
    intro pa pc w2 ho2 hb2
    obtain ⟨L, hL⟩ : ∃ L : List Pt, L = P ++ [⟨3, 3, 0⟩, ⟨4, 3, 0⟩] := ⟨_, rfl⟩
    generalize hn : r + 2 = n at *
    have HLL := Kp.mk (show L.length = n by rw [hL, List.length_append, HR.out, ← hn]; rfl)
    have HO2 := Kp.mk (show w2.ownsRow w.heap.size 26 3 (.slice pa n pc) n (flat ptL L) from by
      rw [hL, flat_append]
      have e : flat ptL [(⟨3, 3, 0⟩ : Pt), ⟨4, 3, 0⟩] = [.int .i64 3, .int .i64 3, .int .i64 0, .int .i64 4, .int .i64 3, .int .i64 0] := by simp [flat, ptL]
      rw [e]; exact ho2)
    have HP2 := Kp.mk (show SlF ptL 3 w2 pa n pc L from own_slc HO2.out)
    have HB2 := Kp.mk (HB1.out.trans hb2)
    have HNR := Kp.mk (show ∀ p ∈ L, p.Near from fun p hp => by
      rw [hL] at hp
      rcases List.mem_append.1 hp with hp | hp
      · have := HBD.out p hp; unfold Pt.Near; omega
      · simp only [List.mem_cons, List.not_mem_nil, or_false] at hp
        rcases hp with rfl | rfl <;> (unfold Pt.Near; simp))
    have HG1 := Kp.mk (show L.getD (n - 2) pt0 = ⟨3, 3, 0⟩ from by rw [hL, show n - 2 = r by omega]; simp [List.getD, HR.out])
    have HG2 := Kp.mk (show L.getD (n - 1) pt0 = ⟨4, 3, 0⟩ from by rw [hL, show n - 1 = r + 1 by omega]; simp [List.getD, HR.out])
    have hn52 : n ≤ 52 := by omega
    have hn2 : 2 ≤ n := by omega
    clear ho2 hb2 hL HO HBD HO2 hsz hn hr50 HR
    go_wp2_with (at_builtin; refine wpList_cat tPts rfl _ _ rfl w2.heap.size none 0 0 [] rfl (World.ownsRow_nil _ _ _ _) _ _ _ _ rfl HP2.out (flat_one ptL_one L) ?c1 (by decide) (Nat.le_refl _) ?c2)
    case c1 => omega
    case c2 =>
      intro qa qc w3 hown3 hbel3
      have HQ3 := Kp.mk (show SlF ptL 3 w3 qa n qc L from own_slc hown3)
      have HP3 := Kp.mk (SlF.below HP2.out hbel3)
      have HB3 := Kp.mk (HB2.out.trans (hbel3.mono HB2.out.size))
      clear hown3 hbel3 HP2
      go_wp2_with fail
      refine (layers_n qa qc n L w3 HQ3.out (by omega) (by omega) HNR.out).mono ?_
      rintro e w4 ⟨ra, rc, R, O, tops, rfl, HRS, HRL, HIO, HI, HB4⟩
      have HF := Kp.mk (lays_of HIO.out HLL.out HI.out)
      have HP4 := Kp.mk (SlF.below HP3.out HB4.out)
      have HB4' := Kp.mk (HB3.out.trans (HB4.out.mono HB3.out.size))
      have HSOME := Kp.mk (show 0 < R.getD (n - 2) 0 from by
        have := HF.out.up (n - 1) (n - 2) (by omega) (by omega) (by rw [HG1.out, HG2.out]; unfold Above; simp)
        omega)
      clear HI HIO HB4 HP3 HQ3 HNR HG1 HG2 HB3 HB2 HB1
      obtain ⟨wf, rfl⟩ : ∃ wf : World, wf = w4 := ⟨_, rfl⟩
      go_wp2
      go_loopw [8, 9] (fun t i wr => ∃ (x : Nat) (s : Bool), x ≤ n ∧ i = .int .i64 x ∧ t = .bool s ∧ Kp (SomeUp R x s) ∧ Kp (Below wf.heap.size wf wr)) (fun _ i _ => n - (intOf i).toNat)
      case atStart => exact ⟨0, false, Nat.zero_le _, rfl, rfl, ⟨someUp_zero R⟩, ⟨Below.refl _ _⟩⟩
      case round =>
        obtain ⟨x, s, hx, rfl, rfl, HS, HBX⟩ := hrel
        by_cases hlt : x < n
        · obtain ⟨rb, ro, rfl, cx⟩ := nat_cell (SlI.below HRS.out HBX.out) HRL.out x hlt
          have hl2 := HF.out.lt x hlt
          obtain ⟨lx, hlx⟩ : ∃ lx, lx = R.getD x 0 := ⟨_, rfl⟩
          have HLX := Kp.mk hlx
          rw [← hlx] at cx hl2
          clear hlx
          have hl2z : (lx : Int) < n := by omega
          have t1 : decide ((n : Int) ≤ lx) = false := decide_eq_false (by omega)
          obtain ⟨s', hs'⟩ : ∃ s', s' = (s || decide ((0 : Int) < lx)) := ⟨_, rfl⟩
          have HS' := Kp.mk (someUp_succ HS.out HLX.out hs')
          obtain ⟨wo, rfl⟩ : ∃ wo : World, wo = wr := ⟨_, rfl⟩
          have HSE := Kp.mk hs'
          clear hs' HS
          have hor : (s = true ∧ Kp (s' = true)) ∨ (s = false ∧ decide ((0 : Int) < lx) = true ∧ Kp (s' = true)) ∨ (s = false ∧ decide ((0 : Int) < lx) = false ∧ Kp (s' = false)) := by
            rw [HSE.out]
            cases s
            · cases decide ((0 : Int) < lx)
              · exact .inr (.inr ⟨rfl, rfl, ⟨rfl⟩⟩)
              · exact .inr (.inl ⟨rfl, rfl, ⟨rfl⟩⟩)
            · exact .inl ⟨rfl, ⟨by simp⟩⟩
          rcases hor with ⟨rfl, HE⟩ | ⟨rfl, h0, HE⟩ | ⟨rfl, h0, HE⟩
          all_goals
            go_wp2
            clear HSE
            go_loopw [10] (fun i wr => ∃ (y : Nat), y ≤ n ∧ i = .int .i64 y ∧ Kp (Below wo.heap.size wo wr)) (fun i _ => n - (intOf i).toNat)
            case atStart => exact ⟨0, Nat.zero_le _, rfl, ⟨Below.refl _ _⟩⟩
            case round =>
              obtain ⟨y, hy, rfl, HBY⟩ := hrel
              have HBW := Kp.mk (HBX.out.trans (HBY.out.mono HBX.out.size))
              by_cases hyl : y < n
              · obtain ⟨_, _, e1, cx2⟩ := nat_cell (SlI.below HRS.out HBW.out) HRL.out x hlt
                simp only [Option.some.injEq, Addr.mk.injEq, and_true] at e1
                obtain ⟨rfl, rfl⟩ := e1
                rw [← HLX.out] at cx2
                obtain ⟨_, _, e1, cy⟩ := nat_cell (SlI.below HRS.out HBW.out) HRL.out y hyl
                simp only [Option.some.injEq, Addr.mk.injEq, and_true] at e1
                obtain ⟨rfl, rfl⟩ := e1
                obtain ⟨pb, po, rfl, x0, x1, x2⟩ := pt_cells (SlF.below HP4.out HBW.out) x hlt
                obtain ⟨_, _, e1, y0, y1, y2⟩ := pt_cells (SlF.below HP4.out HBW.out) y hyl
                simp only [Option.some.injEq, Addr.mk.injEq, and_true] at e1
                obtain ⟨rfl, rfl⟩ := e1
                have HUP := Kp.mk (HF.out.up x y hlt hyl)
                rw [← HLX.out] at HUP
                generalize L.getD x pt0 = p at *
                generalize L.getD y pt0 = q at *
                generalize R.getD y 0 = ly at *
                have hlz : (x : Int) < n := by omega
                have hyz : (y : Int) < n := by omega
                have r0 := later_cell x0
                have r1 := later_cell x1
                have r2 := later_cell x2
                have s0 := later_cell y0
                have s1 := later_cell y1
                have s2 := later_cell y2
                have u0 := later_cell cx2
                have u1 := later_cell cy
                by_cases hab : Above p q
                · have hll := HUP.out hab
                  have t2 : decide ((ly : Int) ≤ lx) = false := decide_eq_false (by omega)
                  have hnl : ¬ ly ≤ lx := by omega
                  have CA := Kp.mk (fun W => pabove_t p q hab W)
                  clear hab hll HUP cx cx2 cy x0 x1 x2 y0 y1 y2
                  go_wp2
                  refine region_later (by kernel_rfl) (by kernel_rfl) ?_
                  iterate 20 (go_big_quiet_step ((go_at_call 33; exact q_later (CA.out _))))
                  refine wpQuiet_nil ?_
                  rintro w' ⟨xl, rfl⟩
                  have HB5 := Kp.mk (HBY.out.trans (xl.le.mono HBY.out.size))
                  clear r0 r1 r2 s0 s1 s2 u0 u1 CA
                  go_wp2
                  go_roundw
                  case rel => exact ⟨y + 1, by omega, by go_num, HB5⟩
                  case measure => simp [intOf]; omega
                · have CA := Kp.mk (fun W => pabove_f p q hab W)
                  clear hab HUP cx cx2 cy x0 x1 x2 y0 y1 y2
                  go_wp2
                  refine region_later (by kernel_rfl) (by kernel_rfl) ?_
                  iterate 20 (go_big_quiet_step ((go_at_call 33; exact q_later (CA.out _))))
                  refine wpQuiet_nil ?_
                  rintro w' ⟨xl, rfl⟩
                  have HB5 := Kp.mk (HBY.out.trans (xl.le.mono HBY.out.size))
                  clear r0 r1 r2 s0 s1 s2 u0 u1 CA
                  go_wp2
                  go_roundw
                  case rel => exact ⟨y + 1, by omega, by go_num, HB5⟩
                  case measure => simp [intOf]; omega
              · obtain rfl : y = n := by omega
                go_wp2
                go_roundw
                case rel => exact ⟨x + 1, s', by omega, by go_num, by rw [HE.out] <;> (simpa using h0), HS', HBW⟩
                case measure => simp [intOf]; omega
        · obtain rfl : x = n := by omega
          obtain rfl : s = true := someUp_at HS.out (show x - 2 < x by omega) HSOME.out
          obtain ⟨q, hq, hql⟩ := pick_nat a1 x (by omega)
          have HQ := Kp.mk hq
          have hqx : q < x := by omega
          have CP := Kp.mk (fun W => hq ▸ picked_any a1 x W (by omega) (by omega) i1 i2)
          clear hq
          go_wp2_with fail
          refine (CP.out _).mono ?_
          rintro e w' ⟨rfl, rfl⟩
          obtain ⟨wo, rfl⟩ : ∃ wo : World, wo = wr := ⟨_, rfl⟩
          have HRO := Kp.mk (SlI.below HRS.out HBX.out)
          have HPO := Kp.mk (SlF.below HP4.out HBX.out)
          have HBO := Kp.mk (HB4'.out.trans (HBX.out.mono HB4'.out.size))
          obtain ⟨rb, ro, rfl, cq⟩ := nat_cell HRO.out HRL.out q hqx
          have hqz : (q : Int) < x := by omega
          go_wp2
          go_loopw [11, 12] (fun t i wr => ∃ (at' : Nat), at' < x ∧ t = .int .i64 at' ∧ i = .int .i64 ((R.getD at' 0 : Nat) : Int) ∧ Kp (Below wo.heap.size wo wr)) (fun _ i _ => (intOf i).toNat)
          case atStart => exact ⟨q, hqx, rfl, rfl, ⟨Below.refl _ _⟩⟩
          case round =>
            obtain ⟨at', hat, rfl, rfl, HBC⟩ := hrel
            obtain ⟨la, hla⟩ : ∃ la, la = R.getD at' 0 := ⟨_, rfl⟩
            have HLA := Kp.mk hla
            have hl2 := HF.out.lt at' hat
            rw [← hla] at hl2 ⊢
            clear hla
            by_cases h0 : 0 < la
            · have h0z : (0 : Int) < la := by omega
              have eL : IntKind.i64.wrap ((la : Int) - 1) = (la : Int) - 1 := IntWalk.i64_in _ (by omega)
              obtain ⟨wp, rfl⟩ : ∃ wp : World, wp = wr := ⟨_, rfl⟩
              go_wp2
              go_loopw [13, 14] (fun z i wr => ∃ (y : Nat) (u : Int), y ≤ x ∧ i = .int .i64 y ∧ z = .int .i64 u ∧ Kp (Found R L la at' y u) ∧ Kp (Below wp.heap.size wp wr)) (fun _ i _ => x - (intOf i).toNat)
              case atStart => exact ⟨0, -1, Nat.zero_le _, rfl, rfl, ⟨found_zero R L la at'⟩, ⟨Below.refl _ _⟩⟩
              case round =>
                obtain ⟨y, u, hy, rfl, rfl, HU, HBY⟩ := hrel
                have HBW := Kp.mk (HBC.out.trans (HBY.out.mono HBC.out.size))
                by_cases hyl : y < x
                · obtain ⟨_, _, e1, cy⟩ := nat_cell (SlI.below HRO.out HBW.out) HRL.out y hyl
                  simp only [Option.some.injEq, Addr.mk.injEq, and_true] at e1
                  obtain ⟨rfl, rfl⟩ := e1
                  obtain ⟨pb, po, rfl, y0, y1, y2⟩ := pt_cells (SlF.below HPO.out HBW.out) y hyl
                  obtain ⟨_, _, e1, x0, x1, x2⟩ := pt_cells (SlF.below HPO.out HBW.out) at' hat
                  simp only [Option.some.injEq, Addr.mk.injEq, and_true] at e1
                  obtain ⟨rfl, rfl⟩ := e1
                  have HNX := Kp.mk (fun (e : R.getD y 0 + 1 = la) (hab : Above (L.getD y pt0) (L.getD at' pt0)) => found_new (u := u) HU.out e hab)
                  have HKP := Kp.mk (fun (e : ¬ (R.getD y 0 + 1 = la ∧ Above (L.getD y pt0) (L.getD at' pt0))) => found_keep HU.out e)
                  generalize L.getD at' pt0 = p at *
                  generalize L.getD y pt0 = q' at *
                  generalize R.getD y 0 = ly at *
                  have haz : (at' : Int) < x := by omega
                  have hyz : (y : Int) < x := by omega
                  have r0 := later_cell x0
                  have r1 := later_cell x1
                  have r2 := later_cell x2
                  have s0 := later_cell y0
                  have s1 := later_cell y1
                  have s2 := later_cell y2
                  have u1 := later_cell cy
                  by_cases hl1 : ly + 1 = la
                  · have t1 : ((ly : Int) == (la : Int) - 1) = true := by rw [beq_iff_eq]; omega
                    by_cases hab : Above q' p
                    · have CA := Kp.mk (fun W => pabove_t q' p hab W)
                      have HN := Kp.mk (HNX.out hl1 hab)
                      clear hab HNX HKP cy x0 x1 x2 y0 y1 y2 hl1
                      go_wp2
                      refine region_later (by kernel_rfl) (by kernel_rfl) ?_
                      iterate 18 (go_big_quiet_step ((go_at_call 33; exact q_later (CA.out _))))
                      refine wpQuiet_nil ?_
                      rintro w' ⟨xl, rfl⟩
                      have HB5 := Kp.mk (HBY.out.trans (xl.le.mono HBY.out.size))
                      clear r0 r1 r2 s0 s1 s2 u1 CA
                      go_wp2
                      go_roundw
                      case rel => exact ⟨y + 1, y, by omega, by go_num, rfl, HN, HB5⟩
                      case measure => simp [intOf]; omega
                    · have CA := Kp.mk (fun W => pabove_f q' p hab W)
                      have HN := Kp.mk (HKP.out (fun h => hab h.2))
                      clear hab HNX HKP cy x0 x1 x2 y0 y1 y2 hl1
                      go_wp2
                      refine region_later (by kernel_rfl) (by kernel_rfl) ?_
                      iterate 18 (go_big_quiet_step ((go_at_call 33; exact q_later (CA.out _))))
                      refine wpQuiet_nil ?_
                      rintro w' ⟨xl, rfl⟩
                      have HB5 := Kp.mk (HBY.out.trans (xl.le.mono HBY.out.size))
                      clear r0 r1 r2 s0 s1 s2 u1 CA
                      go_wp2
                      go_roundw
                      case rel => exact ⟨y + 1, u, by omega, by go_num, rfl, HN, HB5⟩
                      case measure => simp [intOf]; omega
                  · have t1 : ((ly : Int) == (la : Int) - 1) = false := by rw [beq_eq_false_iff_ne]; omega
                    have t2 : ¬ (ly : Int) = (la : Int) - 1 := by omega
                    have HN := Kp.mk (HKP.out (fun h => hl1 h.1))
                    clear HNX HKP cy x0 x1 x2 y0 y1 y2
                    go_wp2
                    refine region_later (by kernel_rfl) (by kernel_rfl) ?_
                    iterate 18 (go_big_quiet_step (fail))
                    refine wpQuiet_nil ?_
                    rintro w' ⟨xl, rfl⟩
                    have HB5 := Kp.mk (HBY.out.trans (xl.le.mono HBY.out.size))
                    clear r0 r1 r2 s0 s1 s2 u1
                    go_wp2
                    go_roundw
                    case rel => exact ⟨y + 1, u, by omega, by go_num, rfl, HN, HB5⟩
                    case measure => simp [intOf]; omega
                · obtain rfl : y = x := by omega
                  obtain ⟨v, hv, rfl, hv2⟩ := found_end HU.out (by obtain ⟨a, h1, h2, h3⟩ := HF.out.way at' hat (by rw [← HLA.out]; exact h0); exact ⟨a, h1, by rw [HLA.out]; exact h2, h3⟩)
                  have hvz : ¬ (v : Int) < 0 := by omega
                  have HV2 := Kp.mk hv2
                  clear hv2
                  go_wp2
                  go_roundw
                  case rel => exact ⟨v, hv, rfl, by rw [← HV2.out]; congr 1; omega, HBW⟩
                  case measure => simp [intOf]; omega
            · obtain rfl : la = 0 := by omega
              have HBF := Kp.mk (HBO.out.trans (HBC.out.mono HBO.out.size))
              go_wp2
              go_ret
              exact ⟨rfl, HBF.out⟩

end Go.Proofs.Ytmfmknpkeniifaa

/- The walk of TreeMeets. -/
import Derived.Test.YtnieacfleabikaaTre
import Derived.Test.YtnieacfleabikaaTopL
namespace Go.Proofs.Ytnieacfleabikaa
set_option linter.unusedVariables false
open Go.RowKit

theorem info_flag : (Try.prog.info? 4).map (fun i => (i.zero, i.size, i.bytes)) = some (some (.bool false), 1, 1) := by kernel_rfl
theorem tFlags : ElemTy Try.prog 47 4 1 1 (.bool false) :=
  ⟨Try.underlying47, by obtain ⟨i0, hi, h0, h1, h2⟩ := info_parts info_flag; exact ⟨i0, hi, h0, h1, h2⟩, rfl, by decide⟩
/-- Which places are marked. -/
def mkN (n : Nat) (C : List Nat) : List Value := (List.range n).map fun j => .bool (decide (j ∈ C))
theorem mkN_nil (n : Nat) : List.replicate n (.bool false) = mkN n [] := by
  apply List.ext_getElem?
  intro i
  by_cases h : i < n <;> simp [mkN, h]
theorem mkN_set (n : Nat) (C : List Nat) (j : Nat) : (mkN n C).set j (.bool true) = mkN n (j :: C) := by
  apply List.ext_getElem?
  intro i
  rw [List.getElem?_set]
  by_cases h : j = i
  · subst h
    by_cases hn : j < n <;> simp [mkN, hn]
  · rw [if_neg h]
    by_cases hn : i < n
    · simp [mkN, hn]
      intro h'; omega
    · simp [mkN, hn]
theorem mkN_cell {w : World} {B e g n cap k : Nat} {C : List Nat} (h : w.ownsRow B e 1 (.slice (some ⟨g, 0, none⟩) n cap) n (mkN n C)) (hk : k < n) :
    w.cell? ⟨g, k, none⟩ = some (.bool (decide (k ∈ C))) := by
  rw [h.cellAt k (by omega)]
  simp [mkN, hk]

/-- The first way up: where it stands. -/
def Way (l : List Int) (n i : Nat) (C : List Nat) (x : Int) : Prop :=
  (∃ p : Nat, x = p ∧ Climb l n i C p) ∨ (x < 0 ∧ ∀ y, y < n → Anc l y i → y ∈ C)
theorem Way.next {l : List Int} {n i : Nat} {C : List Nat} {x : Nat} {o : Int} (h : Climb l n i C x) (ho : Par l n x o) : Way l n i (x :: C) o := by
  by_cases h0 : 0 ≤ o
  · obtain ⟨p, e, _, h1⟩ := h.next ho h0
    exact .inl ⟨p, e, h1⟩
  · exact .inr ⟨by omega, h.top ho (by omega)⟩

set_option maxRecDepth 100000 in
set_option maxHeartbeats 2000000 in
theorem walk_TreeMeets (a0 : Option Addr) (len0 cap0 : Nat) (z0 : List Int) (a1 : Int) (a2 : Int) (w : World) (w0 : IsRow .i64 w a0 len0 cap0 z0) (w1 : (Lit.int .i64 a1).wf = true) (w2 : (Lit.int .i64 a2).wf = true) :
    Calls Try.prog 10 #[.slice a0 len0 cap0, .int .i64 a1, .int .i64 a2] w fun e w' => e = .returned (.bool true) ∧ Below w.heap.size w w' := by
  obtain ⟨l, rfl, hl, wl, nl⟩ := row_sl w0
  obtain ⟨c1, c2⟩ := wf_bd w1
  obtain ⟨d1, d2⟩ := wf_bd w2
  unfold maxLen at nl
  have HL := Kp.mk hl
  have WL := Kp.mk wl
  obtain ⟨n, hm⟩ : ∃ n, n = (nums l 60 15).length + 1 := ⟨_, rfl⟩
  have hn80 : n ≤ 61 := by rw [hm, nums_length]; omega
  have hn0 : 0 < n := by omega
  obtain ⟨i, hi, il⟩ := pick_nat a1 (n : Int) (by omega)
  obtain ⟨q, hq, ql⟩ := pick_nat a2 ((n : Int) - i) (by omega)
  obtain ⟨k, hk⟩ : ∃ k, k = i + q := ⟨_, rfl⟩
  have hik : (i : Int) + q = k := by omega
  have hkm : k < n := by omega
  have hikn : i ≤ k := by omega
  have HI := Kp.mk hi
  have HQ := Kp.mk hq
  have HM := Kp.mk hm
  clear w0 w1 w2 hl wl hi hq hk hm
  go_enter Try.func10, Try.ntmps10
  go_wp2_with fail
  refine (numbers_any a0 cap0 60 15 l w HL.out (by omega) (by omega) (by omega) (by omega) WL.out).mono ?_
  rintro e w1 ⟨na, nc, rfl, hO, hb⟩
  unfold OwnI at hO
  have HO := Kp.mk hO
  have HB := Kp.mk hb
  have hsz := Kp.mk hb.size
  have hnl : (nums l 60 15).length ≤ 60 := by have := HM.out; omega
  clear hO hb
  go_wp2_with (at_builtin; refine wpList_push tInts rfl _ _ rfl w.heap.size na _ nc _ rfl HO.out 1 1 _ rfl rfl ?c1 (by decide) ?c2 (by decide) hsz.out ?c4)
  case c1 => simp [Value.oneCell']
  case c2 => omega
  case c4 =>
    intro sa sc w2 hown hbel
    have HB2 := Kp.mk (HB.out.trans hbel)
    have HN := Kp.mk (show SlI w2 sa sc (nums l 60 15 ++ [4]) from by
      exact own_sl_len (l := nums l 60 15 ++ [4]) (by rw [ints_append]; exact hown) (by rw [List.length_append]; rfl))
    have HNL := Kp.mk (show (nums l 60 15 ++ [4]).length = n by rw [List.length_append, HM.out]; rfl)
    clear hown hbel HO
    rw [← HM.out]
    clear HM hnl
    generalize nums l 60 15 ++ [4] = N at *
    go_wp2_with fail
    refine (copied_n sa sc n N _ HN.out HNL.out (by omega)).mono ?_
    rintro e w3 ⟨ca, cc, rfl, hs, hb⟩
    have HN3 := Kp.mk (HN.out.below hb)
    have HS3 := Kp.mk hs
    have HB3 := Kp.mk (HB2.out.trans (hb.mono (HB2.out.size)))
    clear hs hb HN HB2
    go_wp2_with fail
    refine (rtree_any ca cc n N _ HS3.out HNL.out (by omega) hn0).mono ?_
    rintro e w4 ⟨ta, tc, o, ts, rfl, HT, HTr, hb⟩
    have HN4 := Kp.mk (HN3.out.below hb)
    have HB4 := Kp.mk (HB3.out.trans (hb.mono HB3.out.size))
    have HOL := Kp.mk HTr.out.len
    have HPR := Kp.mk HTr.out.par
    have e1 : ((n : Int) != n) = false := by simp
    clear hb HN3 HB3 HTr
    go_wp2_with fail
    refine (picked_any a1 (n : Int) _ (by omega) (by omega) c1 c2).mono ?_
    rintro e w' ⟨rfl, rfl⟩
    rw [HI.out]
    go_wp2_with fail
    refine (picked_any a2 ((n : Int) - i) _ (by omega) (by omega) d1 d2).mono ?_
    rintro e w' ⟨rfl, rfl⟩
    rw [HQ.out]
    obtain ⟨B, hBB⟩ : ∃ B, B = w4.heap.size := ⟨_, rfl⟩
    have HBB := Kp.mk hBB
    clear hBB
    go_wp2_with (at_make; refine wpList_mk1 tFlags rfl rfl _ _ rfl B n rfl rfl ?e1 (by decide) ?e2 ?e3)
    case e1 => omega
    case e2 => rw [HBB.out]; exact Nat.le_refl _
    case e3 =>
      intro ga gc w5 hown hb
      obtain ⟨g, rfl, hg1, hg2⟩ := own_some hown hn0
      rw [mkN_nil] at hown
      have HF := Kp.mk hown
      have HB5 := Kp.mk hb
      clear hown hb
      go_wp2
      go_loopw [13, 14] (fun x c wr => ∃ (C : List Nat) (xv : Int), x = .int .i64 xv ∧ c = .int .i64 (C.length : Nat) ∧ C.length ≤ n ∧ Kp (Way N n i C xv) ∧ Kp (∀ c ∈ C, Anc N c i) ∧ Kp (wr.ownsRow B 4 1 (.slice (some ⟨g, 0, none⟩) n gc) n (mkN n C)) ∧ Kp (Below B w4 wr)) (fun _ c _ => n - (intOf c).toNat)
      case atStart => exact ⟨[], (i : Int), rfl, rfl, Nat.zero_le _, ⟨.inl ⟨i, rfl, .start (by omega)⟩⟩, ⟨by simp⟩, HF, HB5⟩
      case round =>
        clear HF HB5
        obtain ⟨C, xv, rfl, rfl, hcn, HW, HC, HF, HB5⟩ := hrel
        have HN5 := Kp.mk (HN4.out.below (HBB.out ▸ HB5.out))
        have HT5 := Kp.mk (HT.out.below (HBB.out ▸ HB5.out))
        rcases HW.out with ⟨x, rfl, hcl⟩ | ⟨hx0, hall⟩
        · have hxn := hcl.xn
          have hcnt := hcl.count
          have hpar := HPR.out x hxn
          obtain ⟨bt, ot, rfl, ct⟩ := HT5.out.at x (by rw [HOL.out]; exact hxn)
          obtain ⟨bn, on, rfl, cn⟩ := HN5.out.at x (by rw [HNL.out]; exact hxn)
          rw [← getD_at o 0] at ct
          rw [← at0_get] at cn
          have HW2 := Kp.mk (Way.next hcl hpar)
          have hac := hcl.up
          have HC2 := Kp.mk (show ∀ c ∈ x :: C, Anc N c i from fun c hc => by
            rcases List.mem_cons.1 hc with rfl | hc
            · exact hac
            · exact HC.out c hc)
          have cx := mkN_cell HF.out hxn
          have fx := HF.out.frozenAt x
          have HF2 := Kp.mk ((HF.out.stored x (.bool true)).1)
          rw [mkN_set] at HF2
          have HB6 := Kp.mk (HB5.out.setCell (p := ⟨g, x, none⟩) hg1 (.bool true))
          have hbt : bt ≠ g := by
            have := SlC.blt HT.out (by rw [ints_length, HOL.out]; omega)
            simp at this
            rw [HBB.out] at hg1; omega
          have hgt : g ≠ bt := hbt.symm
          have xi : (x : Int) < n := by omega
          by_cases h0 : 0 ≤ o.getD x 0
          · obtain ⟨p, hp, hle, hcl2⟩ := hcl.next hpar h0
            have hpn := hcl2.xn
            obtain ⟨bn', on', hbb, cp⟩ := HN5.out.at p (by rw [HNL.out]; exact hpn)
            simp only [Option.some.injEq, Addr.mk.injEq, and_true] at hbb
            obtain ⟨rfl, rfl⟩ := hbb
            rw [← at0_get] at cp
            rw [hp] at ct HW2
            have d3 : decide (at0 N p < at0 N x) = false := decide_eq_false (by omega)
            have pi : (p : Int) < n := by omega
            have g1 : decide (n ≤ p) = false := decide_eq_false (by omega)
            have g2 : decide (n ≤ x) = false := decide_eq_false (by omega)
            have g3 : decide (n < C.length) = false := decide_eq_false (by omega)
            have g4 : decide ((0 : Int) ≤ p) = true := decide_eq_true (by omega)
            clear hac hpar hcl hcl2 h0 hp hle
            generalize at0 N p = u at *
            generalize at0 N x = v at *
            go_wp2
            go_quiet (fail)
            go_wp2
            go_roundw
            case rel => exact ⟨x :: C, p, rfl, by simp, by simp; omega, HW2, HC2, ⟨HF2.out⟩, ⟨(below_drewN HB5.out _).setCell (p := ⟨g, x, none⟩) hg1 _⟩⟩
            case measure => simp [intOf]; omega
          · generalize o.getD x 0 = ov at *
            have g1 : decide ((n : Int) ≤ ov) = false := decide_eq_false (by omega)
            have g2 : decide (n ≤ x) = false := decide_eq_false (by omega)
            have g3 : decide (n < C.length) = false := decide_eq_false (by omega)
            have g4 : decide (0 ≤ ov) = false := decide_eq_false h0
            clear hac hpar hcl h0
            generalize at0 N x = v at *
            go_wp2
            go_quiet (fail)
            go_wp2
            go_roundw
            case rel => exact ⟨x :: C, ov, rfl, by simp, by simp; omega, HW2, HC2, ⟨HF2.out⟩, ⟨(below_drewN HB5.out _).setCell (p := ⟨g, x, none⟩) hg1 _⟩⟩
            case measure => simp [intOf]; omega
        · have HA := Kp.mk hall
          have hx1 : decide (0 ≤ xv) = false := decide_eq_false (by omega)
          have HTT := Kp.mk (tix_top N i (k + 1 - i) (by omega))
          have htb := tix_bd N i (k + 1 - i) (by omega)
          have HTA := Kp.mk (top_anc hikn HTT.out)
          have CT := Kp.mk (fun w' hs => topped_any sa sc n i k N w' hs HNL.out (by omega) hikn hkm)
          generalize tix N i (k + 1 - i) = t at *
          have htn : t < n := by omega
          clear hall hx0 htb HW
          go_wp2
          go_loop [13, 15] (fun x c => ∃ (C2 : List Nat) (x' : Nat), x = .int .i64 x' ∧ c = .int .i64 (C2.length : Nat) ∧ Kp (Climb N n k C2 x') ∧ Kp (∀ c ∈ C2, ¬ Anc N c i)) (fun _ c => n - (intOf c).toNat)
          case atStart => exact ⟨[], k, rfl, rfl, ⟨.start hkm⟩, ⟨by simp⟩⟩
          case round =>
            obtain ⟨C2, x, rfl, rfl, HCL, HNA⟩ := hrel
            have hxn := HCL.out.xn
            have hcnt := HCL.out.count
            have hup := HCL.out.up
            have hpar := HPR.out x hxn
            have htx : Anc N t x := by
              rcases HCL.out.all t htn HTA.out.2 with h | h
              · exact absurd HTA.out.1 (HNA.out t h)
              · exact h
            have cx := mkN_cell HF.out hxn
            have xi : (x : Int) < n := by omega
            obtain ⟨bt, ot, rfl, ct⟩ := HT5.out.at x (by rw [HOL.out]; exact hxn)
            rw [← getD_at o 0] at ct
            by_cases hm : x ∈ C
            · rw [decide_eq_true hm] at cx
              have hxt : x = t := meet hikn HTT.out (HC.out x hm) hup htx
              clear hm hup hpar htx
              subst hxt
              have hg4 : decide ((0 : Int) ≤ x) = true := decide_eq_true (by omega)
              go_wp2_with fail
              refine (CT.out _ HN5.out).mono ?_
              rintro e w6 ⟨rfl, hb⟩
              have HB7 := Kp.mk ((HB4.out.trans (HB5.out.mono (by rw [HBB.out]; exact HB4.out.size))).trans (hb.mono (by have := HB5.out.size; have := HB4.out.size; omega)))
              clear hb
              go_wp2
              go_ret
              exact ⟨rfl, HB7.out⟩
            · rw [decide_eq_false hm] at cx
              have hna : ¬ Anc N x i := fun h => hm (HA.out x hxn h)
              have h0 : 0 ≤ o.getD x 0 := by
                apply Classical.byContradiction
                intro hc
                have := par_top hpar hxn (by omega) t htn htx
                subst this
                exact hna HTA.out.1
              obtain ⟨p, hp, _, hcl2⟩ := HCL.out.next hpar h0
              have hpn := hcl2.xn
              have HCL2 := Kp.mk hcl2
              have HNA2 := Kp.mk (show ∀ c ∈ x :: C2, ¬ Anc N c i from fun c hc => by
                rcases List.mem_cons.1 hc with rfl | hc
                · exact hna
                · exact HNA.out c hc)
              rw [hp] at ct
              have g1 : decide (n ≤ p) = false := decide_eq_false (by omega)
              have g3 : decide (n < C2.length) = false := decide_eq_false (by omega)
              clear hm hna h0 hp hcl2 hup hpar htx
              go_wp2
              go_round
              case rel => exact ⟨x :: C2, p, rfl, by simp, HCL2, HNA2⟩
              case measure => simp [intOf]; omega

end Go.Proofs.Ytnieacfleabikaa

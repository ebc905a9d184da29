/- The walk of RowSelect. -/
import Derived.Test.YtaelcebfepbckaaRowK
import Derived.Test.YtaelcebfepbckaaSel
namespace Go.Proofs.Ytaelcebfepbckaa
set_option linter.unusedVariables false
open Go.RowKit

theorem sel_none {M n : Nat} {w : World} {e : Ending} {w' : World} (h : SelRet M n (pcn n M) w e w') : e = .returned (.tuple #[.int .i64 0, .int .i64 7]) ∧ Below w.heap.size w w' := by
  obtain ⟨hb, ⟨p, hp, hbit, hr, _⟩ | ⟨_, he⟩⟩ := h
  · exfalso
    have h1 := pcn_mono M (p + 1) n hp
    rw [pcn_succ, hbit, if_pos rfl] at h1
    omega
  · exact ⟨he, hb⟩
/-- The bit that is found. -/
def SelYes (M n K : Nat) (w : World) (e : Ending) (w' : World) : Prop := ∃ p : Nat, p < n ∧ bitB M p = true ∧ pcn p M = K ∧ e = .returned (.tuple #[.int .i64 p, .int .i64 0]) ∧ Below w.heap.size w w'
theorem sel_yes {M n K : Nat} {w : World} {e : Ending} {w' : World} (h : SelRet M n K w e w') (hK : K < pcn n M) : SelYes M n K w e w' := by
  obtain ⟨hb, ⟨p, hp, hbit, hr, he⟩ | ⟨h, _⟩⟩ := h
  · exact ⟨p, hp, hbit, hr, he, hb⟩
  · omega

set_option maxRecDepth 100000 in
set_option maxHeartbeats 1000000 in
theorem walk_sel_true (a0 : Option Addr) (len0 cap0 : Nat) (z0 : Nat → Bool) (a2 : Int) (w : World) (w0 : IsBools w a0 len0 cap0 z0) (w2 : (Lit.int .i64 a2).wf = true) :
    Calls Try.prog 9 #[.slice a0 len0 cap0, .bool true, .int .i64 a2] w fun e w' => e = .returned (.bool true) ∧ Below w.heap.size w w' := by
  obtain ⟨l, -, hl, nl⟩ := row_bools w0
  obtain ⟨b1, b2⟩ := wf_bd w2
  have HL := Kp.mk hl
  unfold maxLen at nl
  clear w0 w2 hl
  go_enter Try.func9, Try.ntmps9
  go_wp2_with fail
  refine (flags_any a0 cap0 len0 500 l w HL.out (by omega) (by omega)).mono ?_
  rintro e wa ⟨sf, cf, rfl, hof, hb⟩
  have hm500 : min len0 500 ≤ 500 := Nat.min_le_right _ _
  generalize l.take (min len0 500) = E at *
  generalize min len0 500 = n at *
  have HF := Kp.mk hof.sl
  have HB := Kp.mk hb
  have HN := Kp.mk hof.len
  clear hof hb
  go_wp2_with fail
  refine (row_any sf cf n E _ HF.out (by omega)).mono ?_
  rintro e wb ⟨sx, cx, rfl, hox, hbx⟩
  have hal := below_alloc (Nat.le_refl wb.heap.size) (Obj.cells #[Value.int IntKind.i64 ↑n, Value.slice sx (bwN n) cx] 57)
  have HX := Kp.mk (own_below hox hal)
  have HB2 := Kp.mk (below_step (below_step HB.out hbx) hal)
  have HF2 := Kp.mk ((HF.out.below hbx).below hal)
  have HBx := Kp.mk (Box.new wb #[Value.int IntKind.i64 ↑n, Value.slice sx (bwN n) cx] 57)
  have hNlt := bitsN_lt E n
  have hbE : Kp (∀ i, i < n → bitB (bitsN E n) i = E.getD i false) := ⟨fun i hi => bitsN_at E n i hi⟩
  generalize bitsN E n = N at *
  have HNL := Kp.mk hNlt
  clear hox hbx hal HB HF hNlt
  have hnm : n ≤ 64 * bwN n := by unfold bwN; omega
  have HNM := Kp.mk (Nat.lt_of_lt_of_le HNL.out (Nat.pow_le_pow_right (show 0 < 2 by omega) hnm))
  obtain ⟨M, hM⟩ : ∃ M, M = if true then N else cmpl (bwN n) N := ⟨_, rfl⟩
  have HM := Kp.mk hM
  have C := Kp.mk (brank_ok _ sx (bwN n) cx n n N _ rfl HX.out (by omega) (Nat.le_refl _) HNL.out)
  have hple := pcn_le n N
  have hsum : pcn n N + pcn n (cmpl (bwN n) N) = n := cmpl_pcn _ _ _ HNM.out hnm
  have hmany : pcn n N = pcn n M := by rw [hM]; rfl
  have HMANY := Kp.mk hmany
  have HSUM := Kp.mk hsum
  clear hM hmany hsum hnm
  go_wp2_with fail
  generalize wb.alloc (Obj.cells #[Value.int IntKind.i64 ↑n, Value.slice sx (bwN n) cx] 57) = W at *
  refine C.out.mono ?_
  rintro e wc ⟨rfl, hb⟩
  obtain ⟨⟨d0, d1⟩, -⟩ := box2 (HBx.out.below hb)
  have HBc := Kp.mk (below_step HB2.out hb)
  have HBxc := Kp.mk (HBx.out.below hb)
  have HXc := Kp.mk (own_below HX.out hb)
  have HFc := Kp.mk (HF2.out.below hb)
  clear hb C HB2 HBx HX HF2
  have hq := HMANY.out
  generalize hp0 : pcn n N = p0 at *
  have hml := pcn_le n M
  generalize hmn : pcn n M = mn at *
  have HMN := Kp.mk hmn
  have S1 := Kp.mk (bsel_ok true _ sx (bwN n) cx n mn N M wc rfl HXc.out (by omega) (by omega) HNL.out HM.out)
  clear hp0 hmn
  have hq' := hq.symm
  subst hq'
  go_wp2_with fail
  refine S1.out.mono ?_
  rintro e wd hs
  rw [← HMN.out] at hs
  obtain ⟨rfl, hb⟩ := sel_none hs
  have HBd := Kp.mk (below_step HBc.out hb)
  obtain ⟨⟨d2, d3⟩, -⟩ := box2 (HBxc.out.below hb)
  have HBxd := Kp.mk (HBxc.out.below hb)
  have HXd := Kp.mk (own_below HXc.out hb)
  have HFd := Kp.mk (HFc.out.below hb)
  clear hs hb S1 HBc HBxc HXc HFc d0 d1
  by_cases h0 : mn = 0
  · have t1 : ((mn : Int) == 0) = true := beq_iff_eq.2 (by omega)
    clear h0
    go_wp2
    go_ret
    exact ⟨rfl, HBd.out⟩
  · have t1 : ((mn : Int) == 0) = false := beq_eq_false_iff_ne.2 (by omega)
    have hpb := pick_bd a2 mn (by omega)
    obtain ⟨k, hk⟩ : ∃ q : Nat, pick a2 mn = q := ⟨_, (Int.toNat_of_nonneg hpb.1).symm⟩
    have hkn : k < mn := by omega
    have HK := Kp.mk hk
    clear hpb hk
    go_wp2_with fail
    refine (picked_any a2 mn _ (by omega) (by omega) b1 b2).mono ?_
    rintro e w' ⟨rfl, rfl⟩
    rw [HK.out]
    have S2 := Kp.mk (bsel_ok true _ sx (bwN n) cx n k N M wd rfl HXd.out (by omega) (by omega) HNL.out HM.out)
    go_wp2_with fail
    refine S2.out.mono ?_
    rintro e we hs
    obtain ⟨p, hpn, hbit, hrk, rfl, hb⟩ := sel_yes hs (by rw [HMN.out]; exact hkn)
    have HBe := Kp.mk (below_step HBd.out hb)
    obtain ⟨⟨d4, d5⟩, -⟩ := box2 (HBxd.out.below hb)
    have HXe := Kp.mk (own_below HXd.out hb)
    have HFe := Kp.mk (HFd.out.below hb)
    have R := Kp.mk (brank_ok _ sx (bwN n) cx n p N we rfl HXe.out (by omega) (by omega) HNL.out)
    have hpl := pcn_le p N
    have hrr : pcn p N = k := by rw [← hrk, HM.out]; rfl
    have hbp : E.getD p false = true := by rw [← hbE.out p hpn]; have h1 := hbit; rw [HM.out] at h1; exact h1
    rw [getD_at _ _ (by rw [HN.out]; exact hpn)] at hbp
    clear hs hb S2 HBd HBxd HXd HFd d2 d3 hbit hrk
    generalize pcn p N = r at *
    go_wp2_with fail
    refine R.out.mono ?_
    rintro e wf ⟨rfl, hb⟩
    have HBf := Kp.mk (below_step HBe.out hb)
    obtain ⟨b, off, rfl, c1⟩ := (HFe.out.below hb).at p (by rw [HN.out]; exact hpn)
    rw [hbp] at c1
    have t2 : ((r : Int) == (k : Int)) = true := beq_iff_eq.2 (by omega)
    clear hb R d4 d5 hbp hrr
    go_wp2
    go_ret
    exact ⟨rfl, HBf.out⟩

set_option maxRecDepth 100000 in
set_option maxHeartbeats 1000000 in
theorem walk_sel_false (a0 : Option Addr) (len0 cap0 : Nat) (z0 : Nat → Bool) (a2 : Int) (w : World) (w0 : IsBools w a0 len0 cap0 z0) (w2 : (Lit.int .i64 a2).wf = true) :
    Calls Try.prog 9 #[.slice a0 len0 cap0, .bool false, .int .i64 a2] w fun e w' => e = .returned (.bool true) ∧ Below w.heap.size w w' := by
  obtain ⟨l, -, hl, nl⟩ := row_bools w0
  obtain ⟨b1, b2⟩ := wf_bd w2
  have HL := Kp.mk hl
  unfold maxLen at nl
  clear w0 w2 hl
  go_enter Try.func9, Try.ntmps9
  go_wp2_with fail
  refine (flags_any a0 cap0 len0 500 l w HL.out (by omega) (by omega)).mono ?_
  rintro e wa ⟨sf, cf, rfl, hof, hb⟩
  have hm500 : min len0 500 ≤ 500 := Nat.min_le_right _ _
  generalize l.take (min len0 500) = E at *
  generalize min len0 500 = n at *
  have HF := Kp.mk hof.sl
  have HB := Kp.mk hb
  have HN := Kp.mk hof.len
  clear hof hb
  go_wp2_with fail
  refine (row_any sf cf n E _ HF.out (by omega)).mono ?_
  rintro e wb ⟨sx, cx, rfl, hox, hbx⟩
  have hal := below_alloc (Nat.le_refl wb.heap.size) (Obj.cells #[Value.int IntKind.i64 ↑n, Value.slice sx (bwN n) cx] 57)
  have HX := Kp.mk (own_below hox hal)
  have HB2 := Kp.mk (below_step (below_step HB.out hbx) hal)
  have HF2 := Kp.mk ((HF.out.below hbx).below hal)
  have HBx := Kp.mk (Box.new wb #[Value.int IntKind.i64 ↑n, Value.slice sx (bwN n) cx] 57)
  have hNlt := bitsN_lt E n
  have hbE : Kp (∀ i, i < n → bitB (bitsN E n) i = E.getD i false) := ⟨fun i hi => bitsN_at E n i hi⟩
  generalize bitsN E n = N at *
  have HNL := Kp.mk hNlt
  clear hox hbx hal HB HF hNlt
  have hnm : n ≤ 64 * bwN n := by unfold bwN; omega
  have HNM := Kp.mk (Nat.lt_of_lt_of_le HNL.out (Nat.pow_le_pow_right (show 0 < 2 by omega) hnm))
  obtain ⟨M, hM⟩ : ∃ M, M = if false then N else cmpl (bwN n) N := ⟨_, rfl⟩
  have HM := Kp.mk hM
  have C := Kp.mk (brank_ok _ sx (bwN n) cx n n N _ rfl HX.out (by omega) (Nat.le_refl _) HNL.out)
  have hple := pcn_le n N
  have hsum : pcn n N + pcn n (cmpl (bwN n) N) = n := cmpl_pcn _ _ _ HNM.out hnm
  have hmany : n - pcn n N = pcn n M := by rw [hM]; show _ = pcn n (cmpl (bwN n) N); omega
  have HMANY := Kp.mk hmany
  have HSUM := Kp.mk hsum
  clear hM hmany hsum hnm
  go_wp2_with fail
  generalize wb.alloc (Obj.cells #[Value.int IntKind.i64 ↑n, Value.slice sx (bwN n) cx] 57) = W at *
  refine C.out.mono ?_
  rintro e wc ⟨rfl, hb⟩
  obtain ⟨⟨d0, d1⟩, -⟩ := box2 (HBx.out.below hb)
  have HBc := Kp.mk (below_step HB2.out hb)
  have HBxc := Kp.mk (HBx.out.below hb)
  have HXc := Kp.mk (own_below HX.out hb)
  have HFc := Kp.mk (HF2.out.below hb)
  clear hb C HB2 HBx HX HF2
  have hq := HMANY.out
  generalize hp0 : pcn n N = p0 at *
  have hml := pcn_le n M
  generalize hmn : pcn n M = mn at *
  have HMN := Kp.mk hmn
  have S1 := Kp.mk (bsel_ok false _ sx (bwN n) cx n mn N M wc rfl HXc.out (by omega) (by omega) HNL.out HM.out)
  clear hp0 hmn
  have e2 : (n : Int) - (p0 : Int) = (mn : Int) := by omega
  clear hq
  go_wp2_with fail
  refine S1.out.mono ?_
  rintro e wd hs
  rw [← HMN.out] at hs
  obtain ⟨rfl, hb⟩ := sel_none hs
  have HBd := Kp.mk (below_step HBc.out hb)
  obtain ⟨⟨d2, d3⟩, -⟩ := box2 (HBxc.out.below hb)
  have HBxd := Kp.mk (HBxc.out.below hb)
  have HXd := Kp.mk (own_below HXc.out hb)
  have HFd := Kp.mk (HFc.out.below hb)
  clear hs hb S1 HBc HBxc HXc HFc d0 d1
  by_cases h0 : mn = 0
  · have t1 : ((mn : Int) == 0) = true := beq_iff_eq.2 (by omega)
    clear h0
    go_wp2
    go_ret
    exact ⟨rfl, HBd.out⟩
  · have t1 : ((mn : Int) == 0) = false := beq_eq_false_iff_ne.2 (by omega)
    have hpb := pick_bd a2 mn (by omega)
    obtain ⟨k, hk⟩ : ∃ q : Nat, pick a2 mn = q := ⟨_, (Int.toNat_of_nonneg hpb.1).symm⟩
    have hkn : k < mn := by omega
    have HK := Kp.mk hk
    clear hpb hk
    go_wp2_with fail
    refine (picked_any a2 mn _ (by omega) (by omega) b1 b2).mono ?_
    rintro e w' ⟨rfl, rfl⟩
    rw [HK.out]
    have S2 := Kp.mk (bsel_ok false _ sx (bwN n) cx n k N M wd rfl HXd.out (by omega) (by omega) HNL.out HM.out)
    go_wp2_with fail
    refine S2.out.mono ?_
    rintro e we hs
    obtain ⟨p, hpn, hbit, hrk, rfl, hb⟩ := sel_yes hs (by rw [HMN.out]; exact hkn)
    have HBe := Kp.mk (below_step HBd.out hb)
    obtain ⟨⟨d4, d5⟩, -⟩ := box2 (HBxd.out.below hb)
    have HXe := Kp.mk (own_below HXd.out hb)
    have HFe := Kp.mk (HFd.out.below hb)
    have R := Kp.mk (brank_ok _ sx (bwN n) cx n p N we rfl HXe.out (by omega) (by omega) HNL.out)
    have hpl := pcn_le p N
    have hrr : p - pcn p N = k := by rw [← hrk, HM.out]; have := cmpl_pcn (bwN n) N p HNM.out (by unfold bwN; omega); show _ = pcn p (cmpl (bwN n) N); omega
    have hbp : E.getD p false = false := by rw [← hbE.out p hpn]; have h1 := hbit; rw [HM.out] at h1; have h2 := cmpl_bit (bwN n) N p HNM.out (by unfold bwN; omega); rw [show (if false = true then N else cmpl (bwN n) N) = cmpl (bwN n) N from rfl, h2] at h1; simpa using h1
    rw [getD_at _ _ (by rw [HN.out]; exact hpn)] at hbp
    clear hs hb S2 HBd HBxd HXd HFd d2 d3 hbit hrk
    generalize pcn p N = r at *
    go_wp2_with fail
    refine R.out.mono ?_
    rintro e wf ⟨rfl, hb⟩
    have HBf := Kp.mk (below_step HBe.out hb)
    obtain ⟨b, off, rfl, c1⟩ := (HFe.out.below hb).at p (by rw [HN.out]; exact hpn)
    rw [hbp] at c1
    have t2 : ((p : Int) - (r : Int) == (k : Int)) = true := beq_iff_eq.2 (by omega)
    clear hb R d4 d5 hbp hrr
    go_wp2
    go_ret
    exact ⟨rfl, HBf.out⟩

theorem walk_RowSelect (a0 : Option Addr) (len0 cap0 : Nat) (z0 : Nat → Bool) (a1 : Bool) (a2 : Int) (w : World) (w0 : IsBools w a0 len0 cap0 z0) (w2 : (Lit.int .i64 a2).wf = true) :
    Calls Try.prog 9 #[.slice a0 len0 cap0, .bool a1, .int .i64 a2] w fun e w' => e = .returned (.bool true) ∧ Below w.heap.size w w' := by
  cases a1
  · exact walk_sel_false a0 len0 cap0 z0 a2 w w0 w2
  · exact walk_sel_true a0 len0 cap0 z0 a2 w w0 w2

end Go.Proofs.Ytaelcebfepbckaa

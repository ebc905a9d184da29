/- Package pers: with. -/
import Derived.Test.YtdjcmemdlmfgpaaPersB
namespace Go.Proofs.Ytdjcmemdlmfgpaa
set_option linter.unusedVariables false
open Go.RowKit

set_option maxRecDepth 100000 in
set_option maxHeartbeats 4000000 in
theorem pwith_any (T : PT) : ∀ (O : PT) (i : Int) (b c : Nat) (N : List Nat) (w : World), Nods w N → PMem w N T → PMem w N O → T.Bal → O.Bal → T.wide = O.wide → T.wide ≤ 1000 → -1000 ≤ i → i ≤ 1000 → N[T.id]? = some b → N[O.id]? = some c →
    Calls Try.prog 15 #[.pointer (some ⟨b, 0, none⟩), .int .i64 i, .pointer (some ⟨c, 0, none⟩)] w (PRet w N (withT T O i N.length)) := by
  induction T with
  | leaf j v =>
    intro O i b c N w hN hm ho hB hC hw hw2 hi1 hi2 hb hc
    have HT := Kp.mk (PGot.same hN hm hb)
    have HO := Kp.mk (PGot.same hN ho hc)
    obtain ⟨b', hb', hbx⟩ := hm
    obtain rfl : b' = b := by have e : N[j]? = some b := hb; rw [hb'] at e; simpa using e
    have c1 : w.cell? ⟨b', 1, none⟩ = some (.int .i64 1) := hbx.cell 1 rfl
    by_cases h : i ≤ 0
    · have HR := Kp.mk (withT_le (.leaf j v) O i N.length h)
      have t1 : decide (i ≤ 0) = true := decide_eq_true h
      clear hN ho hB hC hw hb hc hb' hbx
      go_enter Try.func15, Try.ntmps15
      go_wp2
      go_ret
      rw [HR.out]
      exact ⟨N, c, rfl, HO.out⟩
    · have HR := Kp.mk (withT_ge (.leaf j v) O i N.length (by rw [PT.wide_leaf]; omega))
      have t1 : decide (i ≤ 0) = false := decide_eq_false h
      have t2 : decide ((1 : Int) ≤ i) = true := decide_eq_true (by omega)
      clear hN ho hB hC hw hb hc hb' hbx
      go_enter Try.func15, Try.ntmps15
      go_wp2
      go_ret
      rw [HR.out]
      exact ⟨N, b', rfl, HT.out⟩
  | node j l r ihl ihr =>
    intro O i b c N w hN hm ho hB hC hw hw2 hi1 hi2 hb hc
    have HT := Kp.mk (PGot.same hN hm hb)
    have HO := Kp.mk (PGot.same hN ho hc)
    rcases same_shape hB hC hw with ⟨_, _, _, _, e1, _⟩ | ⟨_, _, _, k, l2, r2, e1, e2, w1, w2, b1, b2, c1, c2⟩
    · exact absurd e1 (by simp)
    simp only [PT.node.injEq] at e1
    obtain ⟨rfl, rfl, rfl⟩ := e1
    subst e2
    obtain ⟨b', p, xl, xr, hb', hxl, hxr, hbx, hpx, hml, hmr⟩ := hm
    obtain ⟨c', q, yl, yr, hc', hyl, hyr, hcx, hqx, hol, hor⟩ := ho
    obtain rfl : b' = b := by have e : N[j]? = some b := hb; rw [hb'] at e; simpa using e
    obtain rfl : c' = c := by have e : N[k]? = some c := hc; rw [hc'] at e; simpa using e
    obtain ⟨xl', vl, ql, hxl', bxl⟩ := hml.root
    obtain rfl : xl' = xl := by rw [hxl] at hxl'; simpa using hxl'.symm
    have hl0 := l.wide_pos
    have hr0 := r.wide_pos
    obtain ⟨W, hW⟩ : ∃ W, W = (PT.node j l r).wide := ⟨_, rfl⟩
    have hWs := hW
    rw [PT.wide_node] at hWs
    rw [← hWs] at hbx
    have d1 : w.cell? ⟨b', 1, none⟩ = some (.int .i64 (W : Nat)) := hbx.cell 1 rfl
    by_cases h : i ≤ 0
    · have HR := Kp.mk (withT_le (.node j l r) (.node k l2 r2) i N.length h)
      have t1 : decide (i ≤ 0) = true := decide_eq_true h
      clear hN hB hC hw hb hc hb' hbx hc' hcx hpx hqx hml hmr hol hor ihl ihr hxl hxr hyl hyr hxl' bxl hW hWs w1 w2 b1 b2 c1 c2
      go_enter Try.func15, Try.ntmps15
      go_wp2
      go_ret
      rw [HR.out]
      exact ⟨N, c', rfl, HO.out⟩
    · have t1 : decide (i ≤ 0) = false := decide_eq_false h
      by_cases h2 : (W : Int) ≤ i
      · have HR := Kp.mk (withT_ge (.node j l r) (.node k l2 r2) i N.length (by rw [← hW]; exact h2))
        have t2 : decide ((W : Int) ≤ i) = true := decide_eq_true h2
        clear hN hB hC hw hb hc hb' hbx hc' hcx hpx hqx hml hmr hol hor ihl ihr hxl hxr hyl hyr hxl' bxl hW hWs w1 w2 b1 b2 c1 c2
        go_enter Try.func15, Try.ntmps15
        go_wp2
        go_ret
        rw [HR.out]
        exact ⟨N, b', rfl, HT.out⟩
      · have t2 : decide ((W : Int) ≤ i) = false := decide_eq_false h2
        have hlW : l.wide ≤ 1000 := by omega
        have hrW : r.wide ≤ 1000 := by omega
        have HR := Kp.mk (show withT (.node j l r) (.node k l2 r2) i N.length = (.node (withT r r2 (i - l.wide) (withT l l2 i N.length).2).2 (withT l l2 i N.length).1 (withT r r2 (i - l.wide) (withT l l2 i N.length).2).1, (withT r r2 (i - l.wide) (withT l l2 i N.length).2).2 + 1) from by
          conv => lhs; unfold withT
          rw [if_neg h, if_neg (by rw [← hW]; exact h2)])
        have HWA := Kp.mk (show (withT l l2 i N.length).1.wide ≤ 1000 from by rw [withT_wide l l2 i N.length b1 c1 w1]; exact hlW)
        have HWB := Kp.mk (fun n => show (withT r r2 (i - l.wide) n).1.wide ≤ 1000 from by rw [withT_wide r r2 _ n b2 c2 w2]; exact hrW)
        have hdN : Nods w.drew N := hN.below ((Below.refl _ _).drew)
        have C1 := Kp.mk (ihl l2 i xl' yl N w.drew hdN (hml.below ((Below.refl _ _).drew)) (hol.below ((Below.refl _ _).drew)) b1 c1 w1 hlW hi1 hi2 hxl hyl)
        obtain ⟨lw, hlw⟩ : ∃ lw, l.wide = lw := ⟨_, rfl⟩
        have C2 := Kp.mk (fun (A : PT) (n1 : Nat) (w1' : World) (N1 : List Nat) (b1' : Nat) (hg : PGot w N A n1 w1' N1 b1') (w2' : World) (hb : Below w1'.heap.size w1' w2') => ihr r2 (i - l.wide) xr yr N1 w2' (hg.nods.below hb) ((hg.keep hmr).below hb) ((hg.keep hor).below hb) b2 c2 w2 hrW (by omega) (by omega) (hg.get hxr) (hg.get hyr))
        rw [hlw] at C2 HR HWB hl0 hlW bxl
        have HC := Kp.mk (fun (w' : World) (h : Below w.heap.size w w') => show w'.cell? ⟨b', 2, none⟩ = some (.pointer (some ⟨p, 0, none⟩)) ∧ w'.cell? ⟨p, 0, none⟩ = some (.pointer (some ⟨xl', 0, none⟩)) ∧ w'.cell? ⟨p, 1, none⟩ = some (.pointer (some ⟨xr, 0, none⟩)) ∧ w'.cell? ⟨xl', 1, none⟩ = some (.int .i64 (lw : Nat)) ∧ w'.cell? ⟨c', 2, none⟩ = some (.pointer (some ⟨q, 0, none⟩)) ∧ w'.cell? ⟨q, 0, none⟩ = some (.pointer (some ⟨yl, 0, none⟩)) ∧ w'.cell? ⟨q, 1, none⟩ = some (.pointer (some ⟨yr, 0, none⟩)) from
          ⟨(hbx.below h).cell 2 rfl, (hpx.below h).cell 0 rfl, (hpx.below h).cell 1 rfl, (bxl.below h).cell 1 rfl, (hcx.below h).cell 2 rfl, (hqx.below h).cell 0 rfl, (hqx.below h).cell 1 rfl⟩)
        obtain ⟨s1, s2, s3, s4, s5, s6, s7⟩ := HC.out w (Below.refl _ _)
        have HDR := Kp.mk (show Below w.heap.size w w.drew from (Below.refl _ _).drew)
        have e1 : IntKind.i64.wrap (i - (lw : Int)) = i - (lw : Int) := IntWalk.i64_in _ (by omega)
        clear hN hB hC hw hb hc hb' hbx hc' hcx hpx hqx hml hmr hol hor ihl ihr hxl hxr hyl hyr hxl' bxl hW hWs w1 w2 b1 b2 c1 c2 hdN HT HO hlw
        generalize withT l l2 i N.length = A at *
        go_enter Try.func15, Try.ntmps15
        go_upto_region 5 with (fail)
        go_region_held3 (fun w' => w'.cell? ⟨b', 2, none⟩ = some (.pointer (some ⟨p, 0, none⟩)) ∧ w'.cell? ⟨p, 0, none⟩ = some (.pointer (some ⟨xl', 0, none⟩)) ∧ w'.cell? ⟨p, 1, none⟩ = some (.pointer (some ⟨xr, 0, none⟩)) ∧ w'.cell? ⟨xl', 1, none⟩ = some (.int .i64 (lw : Nat)) ∧ w'.cell? ⟨c', 2, none⟩ = some (.pointer (some ⟨q, 0, none⟩)) ∧ w'.cell? ⟨q, 0, none⟩ = some (.pointer (some ⟨yl, 0, none⟩)) ∧ w'.cell? ⟨q, 1, none⟩ = some (.pointer (some ⟨yr, 0, none⟩)))
          (first | exact ⟨s1, s2, s3, s4, s5, s6, s7⟩ | exact hS1 | go_keep)
          ((first
            | (go_at_call 15; (with_reducible refine C1.out.mono ?_); rintro e w1 ⟨N1, x1, rfl, hg1⟩; have hS1 := HC.out w1 (HDR.out.trans hg1.bel))))
        all_goals
          have HG1 := Kp.mk (hg1.drew)
          have HDR1 := Kp.mk (show Below w1.heap.size w1 w1.drew from (Below.refl _ _).drew)
          have HDF := Kp.mk (show Below w.heap.size w w1.drew from HG1.out.bel.trans (HDR1.out.mono HG1.out.bel.size))
          have C3 := Kp.mk (C2.out A.1 A.2 w1 N1 x1 HG1.out w1.drew HDR1.out)
          rw [HG1.out.len] at C3
          have HWC := Kp.mk (HWB.out A.2)
          obtain ⟨s1, s2, s3, s4, s5, s6, s7⟩ := hS1
          clear hg1 C1 C2
          generalize withT r r2 (i - (lw : Int)) A.2 = B at *
          go_wp2
          go_region_held3 (fun w' => w'.cell? ⟨b', 2, none⟩ = some (.pointer (some ⟨p, 0, none⟩)) ∧ w'.cell? ⟨p, 0, none⟩ = some (.pointer (some ⟨xl', 0, none⟩)) ∧ w'.cell? ⟨p, 1, none⟩ = some (.pointer (some ⟨xr, 0, none⟩)) ∧ w'.cell? ⟨xl', 1, none⟩ = some (.int .i64 (lw : Nat)) ∧ w'.cell? ⟨c', 2, none⟩ = some (.pointer (some ⟨q, 0, none⟩)) ∧ w'.cell? ⟨q, 0, none⟩ = some (.pointer (some ⟨yl, 0, none⟩)) ∧ w'.cell? ⟨q, 1, none⟩ = some (.pointer (some ⟨yr, 0, none⟩)))
            (first | exact ⟨s1, s2, s3, s4, s5, s6, s7⟩ | exact hS3 | exact hS2 | go_keep)
            ((first
              | (go_at_call 18; refine (pjoin_any A.1 B.1 x1 x2 N2 w2 HG2.out.nods (HG2.out.keep HM1.out) HG2.out.mem (HG2.out.get HG1.out.root) HG2.out.root HWA.out HWC.out).mono ?_; rintro e w3 ⟨N3, x3, rfl, hg3⟩; have hS3 := HC.out w3 ((HDF.out.trans (HG2.out.bel.mono HDF.out.size)).trans (hg3.bel.mono (Nat.le_trans HDF.out.size HG2.out.bel.size))))
              | (go_at_call 15; (with_reducible refine C3.out.mono ?_); rintro e w2 ⟨N2, x2, rfl, hg2⟩; have hS2 := HC.out w2 (HDF.out.trans (hg2.bel.mono HDF.out.size)); have HG2 := Kp.mk hg2; have HM1 := Kp.mk (HG1.out.mem.below HDR1.out))))
          all_goals
            have hF := HG1.out.step ((HG2.out.drew).step hg3)
            rw [HG2.out.len] at hF
            have HF := Kp.mk hF
            clear hF hS2 hS3 hg2 hg3 s1 s2 s3 s4 s5 s6 s7 e1
            go_wp2
            go_ret
            rw [HR.out]
            exact ⟨N3, x3, rfl, HF.out⟩

end Go.Proofs.Ytdjcmemdlmfgpaa

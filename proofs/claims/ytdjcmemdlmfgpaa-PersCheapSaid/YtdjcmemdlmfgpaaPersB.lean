/- Package pers: set, with, numbers. -/
import Derived.Test.YtdjcmemdlmfgpaaPersA
namespace Go.Proofs.Ytdjcmemdlmfgpaa
set_option linter.unusedVariables false
open Go.RowKit

theorem setT_wide (T : PT) (i : Nat) (y : Int) (n0 : Nat) (hi : i < T.wide) (hb : T.Bal) : (setT T i y n0).1.wide = T.wide := by
  unfold PT.wide; rw [(setT_vals T i y n0 hi hb).1, List.length_set]
theorem withT_wide (T O : PT) (i : Int) (n0 : Nat) (hb : T.Bal) (hc : O.Bal) (hw : T.wide = O.wide) : (withT T O i n0).1.wide = T.wide := by
  have h := (withT_vals T O i n0 hb hc hw).1
  unfold PT.wide at *
  rw [h, List.length_append, List.length_take, List.length_drop]; omega
theorem PGot.same {w : World} {N : List Nat} {T : PT} {b : Nat} (hN : Nods w N) (hm : PMem w N T) (hb : N[T.id]? = some b) : PGot w N T N.length w N b := ⟨⟨[], by simp⟩, rfl, hb, hm, hN, Below.refl _ _⟩

set_option maxRecDepth 100000 in
set_option maxHeartbeats 2000000 in
theorem pset_any (T : PT) : ∀ (i b : Nat) (y : Int) (N : List Nat) (w : World), Nods w N → PMem w N T → T.Bal → i < T.wide → T.wide ≤ 1000 → N[T.id]? = some b →
    Calls Try.prog 14 #[.pointer (some ⟨b, 0, none⟩), .int .i64 i, .int .i64 y] w (PRet w N (setT T i y N.length)) := by
  induction T with
  | leaf j v =>
    intro i b y N w hN hm hB hi hw hb
    obtain ⟨b', hb', hbx⟩ := hm
    obtain rfl : b' = b := by have e : N[j]? = some b := hb; rw [hb'] at e; simpa using e
    have c1 : w.cell? ⟨b', 1, none⟩ = some (.int .i64 1) := hbx.cell 1 rfl
    have C := Kp.mk (pleaf_any y N w hN)
    clear hN hbx hb hb' hB hi hw
    go_enter Try.func14, Try.ntmps14
    go_wp2_with fail
    refine C.out.mono ?_
    rintro e w1 ⟨N', b2, rfl, hg⟩
    have HG := Kp.mk hg
    clear hg
    go_wp2
    go_ret
    exact ⟨N', b2, rfl, HG.out⟩
  | node j l r ihl ihr =>
    intro i b y N w hN hm hB hi hw hb
    obtain ⟨b', p, xl, xr, hb', hxl, hxr, hbx, hpx, hml, hmr⟩ := hm
    obtain rfl : b' = b := by have e : N[j]? = some b := hb; rw [hb'] at e; simpa using e
    obtain ⟨xl', vl, ql, hxl', bxl⟩ := hml.root
    obtain rfl : xl' = xl := by rw [hxl] at hxl'; simpa using hxl'.symm
    obtain ⟨hB0, hBl, hBr⟩ := hB
    clear hB0
    rw [PT.wide_node] at hi hw
    have hl0 := l.wide_pos
    have hr0 := r.wide_pos
    obtain ⟨W, hW⟩ : ∃ W, W = l.wide + r.wide := ⟨_, rfl⟩
    have c1 : w.cell? ⟨b', 1, none⟩ = some (.int .i64 (W : Nat)) := by rw [hW]; exact hbx.cell 1 rfl
    have c2 : w.cell? ⟨b', 2, none⟩ = some (.pointer (some ⟨p, 0, none⟩)) := hbx.cell 2 rfl
    have p0 : w.cell? ⟨p, 0, none⟩ = some (.pointer (some ⟨xl', 0, none⟩)) := hpx.cell 0 rfl
    have p1 : w.cell? ⟨p, 1, none⟩ = some (.pointer (some ⟨xr, 0, none⟩)) := hpx.cell 1 rfl
    have l1 : w.cell? ⟨xl', 1, none⟩ = some (.int .i64 (l.wide : Nat)) := bxl.cell 1 rfl
    have ht : (((W : Nat) : Int) == 1) = false := beq_eq_false_iff_ne.2 (by omega)
    have hiW : i < W := by omega
    have hi1k : i ≤ 1000 := by omega
    have HML := Kp.mk hml
    have HMR := Kp.mk hmr
    have HN := Kp.mk hN
    have HXL := Kp.mk hxl
    have HXR := Kp.mk hxr
    have hd : ∀ n, Below w.heap.size w (w.drewN n) := fun n => drewN_below n
    have HS := Kp.mk (show setT (.node j l r) i y N.length = if i < l.wide then (.node (setT l i y N.length).2 (setT l i y N.length).1 r, (setT l i y N.length).2 + 1) else (.node (setT r (i - l.wide) y N.length).2 l (setT r (i - l.wide) y N.length).1, (setT r (i - l.wide) y N.length).2 + 1) from rfl)
    have hlw2 : l.wide ≤ 1000 := by omega
    have hrw2 : r.wide ≤ 1000 := by omega
    have hil0 : i - l.wide < r.wide ∨ i < l.wide := by omega
    clear hW hi hw
    by_cases hil : i < l.wide
    · have hilz : (i : Int) < (l.wide : Nat) := by omega
      have C := Kp.mk (fun n => ihl i xl' y N (w.drewN n) (hN.below (hd n)) (hml.below (hd n)) hBl hil hlw2 hxl)
      have HW := Kp.mk (setT_wide l i y N.length hil hBl)
      have HS2 := Kp.mk (HS.out.trans (if_pos hil))
      clear hN hml hmr hxl hxr hxl' bxl hbx hpx hb hb' ihl ihr HS hd hil hil0
      generalize setT l i y N.length = A at *
      generalize l.wide = lw at *
      go_enter Try.func14, Try.ntmps14
      go_wp2
      go_quiet (fail)
      go_wp2_with fail
      refine (C.out _).mono ?_
      rintro e w1 ⟨N1, b1, rfl, hg⟩
      have HG := Kp.mk (show PGot w N A.1 A.2 w1 N1 b1 from ⟨hg.pre, hg.len, hg.root, hg.mem, hg.nods, (drewN_below nq).trans hg.bel⟩)
      clear hg C c1 c2 p0 p1 l1
      have C2 := Kp.mk (pjoin_any A.1 r b1 xr N1 w1 HG.out.nods HG.out.mem (HG.out.keep HMR.out) HG.out.root (HG.out.get HXR.out) (by rw [HW.out]; exact hlw2) hrw2)
      go_wp2_with fail
      refine C2.out.mono ?_
      rintro e w2 ⟨N2, b2, rfl, hg⟩
      have hF := HG.out.step hg
      rw [HG.out.len] at hF
      have HF := Kp.mk hF
      clear hg hF C2
      go_wp2
      go_ret
      rw [HS2.out]
      exact ⟨N2, b2, rfl, HF.out⟩
    · have hilz : ¬ ((i : Int) < (l.wide : Nat)) := by omega
      have e1 : (i : Int) - (l.wide : Nat) = ((i - l.wide : Nat) : Int) := by omega
      have C := Kp.mk (fun n => ihr (i - l.wide) xr y N (w.drewN n) (hN.below (hd n)) (hmr.below (hd n)) hBr (hil0.resolve_right hil) hrw2 hxr)
      rw [← e1] at C
      have HW := Kp.mk (setT_wide r (i - l.wide) y N.length (hil0.resolve_right hil) hBr)
      have HS2 := Kp.mk (HS.out.trans (if_neg hil))
      clear hN hml hmr hxl hxr hxl' bxl hbx hpx hb hb' ihl ihr HS hd hil0 e1
      have hli : l.wide ≤ i := by omega
      clear hil
      generalize setT r (i - l.wide) y N.length = A at *
      generalize hlw : l.wide = lw at *
      have HLW := Kp.mk hlw
      clear hlw
      go_enter Try.func14, Try.ntmps14
      go_wp2
      go_quiet (fail)
      go_wp2_with fail
      refine (C.out _).mono ?_
      rintro e w1 ⟨N1, b1, rfl, hg⟩
      have HG := Kp.mk (show PGot w N A.1 A.2 w1 N1 b1 from ⟨hg.pre, hg.len, hg.root, hg.mem, hg.nods, (drewN_below nq).trans hg.bel⟩)
      clear hg C c1 c2 p0 p1 l1
      have C2 := Kp.mk (pjoin_any l A.1 xl' b1 N1 w1 HG.out.nods (HG.out.keep HML.out) HG.out.mem (HG.out.get HXL.out) HG.out.root (by rw [HLW.out]; exact hlw2) (by rw [HW.out]; exact hrw2))
      go_wp2_with fail
      refine C2.out.mono ?_
      rintro e w2 ⟨N2, b2, rfl, hg⟩
      have hF := HG.out.step hg
      rw [HG.out.len] at hF
      have HF := Kp.mk hF
      clear hg hF C2
      go_wp2
      go_ret
      rw [HS2.out]
      exact ⟨N2, b2, rfl, HF.out⟩


end Go.Proofs.Ytdjcmemdlmfgpaa

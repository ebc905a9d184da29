/- Package pers: set, with, numbers. -/
import Derived.Test.YtjicgndahpffbaaPersA
namespace Go.Proofs.Ytjicgndahpffbaa
set_option linter.unusedVariables false
open Go.RowKit

theorem setT_wide (T : PT) (i : Nat) (y : Int) (n0 : Nat) (hi : i < T.wide) (hb : T.Bal) : (setT T i y n0).1.wide = T.wide := by
  unfold PT.wide; rw [(setT_vals T i y n0 hi hb).1, List.length_set]
theorem withT_wide (T O : PT) (i : Int) (n0 : Nat) (hb : T.Bal) (hc : O.Bal) (hw : T.wide = O.wide) : (withT T O i n0).1.wide = T.wide := by
  have h := (withT_vals T O i n0 hb hc hw).1
  unfold PT.wide at *
  rw [h, List.length_append, List.length_take, List.length_drop]; omega
theorem PGot.same {w : World} {N : List Nat} {T : PT} {b : Nat} (hN : Nods w N) (hm : PMem w N T) (hb : N[T.id]? = some b) : PGot w N T N.length w N b := ⟨⟨[], by simp⟩, rfl, hb, hm, hN, Below.refl _ _⟩

set_option maxRecDepth 100000 in
set_option maxHeartbeats 2000000 in
theorem pset_any (T : PT) : ∀ (i b : Nat) (y : Int) (N : List Nat) (w : World), Nods w N → PMem w N T → T.Bal → i < T.wide → T.wide ≤ 1000 → N[T.id]? = some b →
    Calls Try.prog 114 #[.pointer (some ⟨b, 0, none⟩), .int .i64 i, .int .i64 y] w (PRet w N (setT T i y N.length)) := by
  induction T with
  | leaf j v =>
    intro i b y N w hN hm hB hi hw hb
    obtain ⟨b', hb', hbx⟩ := hm
    obtain rfl : b' = b := by have e : N[j]? = some b := hb; rw [hb'] at e; simpa using e
    have c1 : w.cell? ⟨b', 1, none⟩ = some (.int .i64 1) := hbx.cell 1 rfl
    have C := Kp.mk (pleaf_any y N w hN)
    clear hN hbx hb hb' hB hi hw
    go_enter Try.func114, Try.ntmps114
    go_wp2_with fail
    refine C.out.mono ?_
    rintro e w1 ⟨N', b2, rfl, hg⟩
    have HG := Kp.mk hg
    clear hg
    go_wp2
    go_ret
    exact ⟨N', b2, rfl, HG.out⟩
  | node j l r ihl ihr =>
    intro i b y N w hN hm hB hi hw hb
    obtain ⟨b', p, xl, xr, hb', hxl, hxr, hbx, hpx, hml, hmr⟩ := hm
    obtain rfl : b' = b := by have e : N[j]? = some b := hb; rw [hb'] at e; simpa using e
    obtain ⟨xl', vl, ql, hxl', bxl⟩ := hml.root
    obtain rfl : xl' = xl := by rw [hxl] at hxl'; simpa using hxl'.symm
    obtain ⟨hB0, hBl, hBr⟩ := hB
    clear hB0
    rw [PT.wide_node] at hi hw
    have hl0 := l.wide_pos
    have hr0 := r.wide_pos
    obtain ⟨W, hW⟩ : ∃ W, W = l.wide + r.wide := ⟨_, rfl⟩
    have c1 : w.cell? ⟨b', 1, none⟩ = some (.int .i64 (W : Nat)) := by rw [hW]; exact hbx.cell 1 rfl
    have c2 : w.cell? ⟨b', 2, none⟩ = some (.pointer (some ⟨p, 0, none⟩)) := hbx.cell 2 rfl
    have p0 : w.cell? ⟨p, 0, none⟩ = some (.pointer (some ⟨xl', 0, none⟩)) := hpx.cell 0 rfl
    have p1 : w.cell? ⟨p, 1, none⟩ = some (.pointer (some ⟨xr, 0, none⟩)) := hpx.cell 1 rfl
    have l1 : w.cell? ⟨xl', 1, none⟩ = some (.int .i64 (l.wide : Nat)) := bxl.cell 1 rfl
    have ht : (((W : Nat) : Int) == 1) = false := beq_eq_false_iff_ne.2 (by omega)
    have hiW : i < W := by omega
    have hi1k : i ≤ 1000 := by omega
    have HML := Kp.mk hml
    have HMR := Kp.mk hmr
    have HN := Kp.mk hN
    have HXL := Kp.mk hxl
    have HXR := Kp.mk hxr
    have hd : ∀ n, Below w.heap.size w (w.drewN n) := fun n => drewN_below n
    have HS := Kp.mk (show setT (.node j l r) i y N.length = if i < l.wide then (.node (setT l i y N.length).2 (setT l i y N.length).1 r, (setT l i y N.length).2 + 1) else (.node (setT r (i - l.wide) y N.length).2 l (setT r (i - l.wide) y N.length).1, (setT r (i - l.wide) y N.length).2 + 1) from rfl)
    have hlw2 : l.wide ≤ 1000 := by omega
    have hrw2 : r.wide ≤ 1000 := by omega
    have hil0 : i - l.wide < r.wide ∨ i < l.wide := by omega
    clear hW hi hw
    by_cases hil : i < l.wide
    · have hilz : (i : Int) < (l.wide : Nat) := by omega
      have C := Kp.mk (fun n => ihl i xl' y N (w.drewN n) (hN.below (hd n)) (hml.below (hd n)) hBl hil hlw2 hxl)
      have HW := Kp.mk (setT_wide l i y N.length hil hBl)
      have HS2 := Kp.mk (HS.out.trans (if_pos hil))
      clear hN hml hmr hxl hxr hxl' bxl hbx hpx hb hb' ihl ihr HS hd hil hil0
      generalize setT l i y N.length = A at *
      generalize l.wide = lw at *
      go_enter Try.func114, Try.ntmps114
      go_wp2
      go_quiet (fail)
      go_wp2_with fail
      refine (C.out _).mono ?_
      rintro e w1 ⟨N1, b1, rfl, hg⟩
      have HG := Kp.mk (show PGot w N A.1 A.2 w1 N1 b1 from ⟨hg.pre, hg.len, hg.root, hg.mem, hg.nods, (drewN_below nq).trans hg.bel⟩)
      clear hg C c1 c2 p0 p1 l1
      have C2 := Kp.mk (pjoin_any A.1 r b1 xr N1 w1 HG.out.nods HG.out.mem (HG.out.keep HMR.out) HG.out.root (HG.out.get HXR.out) (by rw [HW.out]; exact hlw2) hrw2)
      go_wp2_with fail
      refine C2.out.mono ?_
      rintro e w2 ⟨N2, b2, rfl, hg⟩
      have hF := HG.out.step hg
      rw [HG.out.len] at hF
      have HF := Kp.mk hF
      clear hg hF C2
      go_wp2
      go_ret
      rw [HS2.out]
      exact ⟨N2, b2, rfl, HF.out⟩
    · have hilz : ¬ ((i : Int) < (l.wide : Nat)) := by omega
      have e1 : (i : Int) - (l.wide : Nat) = ((i - l.wide : Nat) : Int) := by omega
      have C := Kp.mk (fun n => ihr (i - l.wide) xr y N (w.drewN n) (hN.below (hd n)) (hmr.below (hd n)) hBr (hil0.resolve_right hil) hrw2 hxr)
      rw [← e1] at C
      have HW := Kp.mk (setT_wide r (i - l.wide) y N.length (hil0.resolve_right hil) hBr)
      have HS2 := Kp.mk (HS.out.trans (if_neg hil))
      clear hN hml hmr hxl hxr hxl' bxl hbx hpx hb hb' ihl ihr HS hd hil0 e1
      have hli : l.wide ≤ i := by omega
      clear hil
      generalize setT r (i - l.wide) y N.length = A at *
      generalize hlw : l.wide = lw at *
      have HLW := Kp.mk hlw
      clear hlw
      go_enter Try.func114, Try.ntmps114
      go_wp2
      go_quiet (fail)
      go_wp2_with fail
      refine (C.out _).mono ?_
      rintro e w1 ⟨N1, b1, rfl, hg⟩
      have HG := Kp.mk (show PGot w N A.1 A.2 w1 N1 b1 from ⟨hg.pre, hg.len, hg.root, hg.mem, hg.nods, (drewN_below nq).trans hg.bel⟩)
      clear hg C c1 c2 p0 p1 l1
      have C2 := Kp.mk (pjoin_any l A.1 xl' b1 N1 w1 HG.out.nods (HG.out.keep HML.out) HG.out.mem (HG.out.get HXL.out) HG.out.root (by rw [HLW.out]; exact hlw2) (by rw [HW.out]; exact hrw2))
      go_wp2_with fail
      refine C2.out.mono ?_
      rintro e w2 ⟨N2, b2, rfl, hg⟩
      have hF := HG.out.step hg
      rw [HG.out.len] at hF
      have HF := Kp.mk hF
      clear hg hF C2
      go_wp2
      go_ret
      rw [HS2.out]
      exact ⟨N2, b2, rfl, HF.out⟩

/-- What numbers hands back. -/
def NumRet (B n : Nat) (xs : List Int) (T : PT) (w : World) (e : Ending) (w' : World) : Prop :=
  ∃ a' cap', e = .returned (.slice a' (n + T.wide) cap') ∧ w'.ownsRow B 3 1 (.slice a' (n + T.wide) cap') (n + T.wide) (ints (xs ++ T.vals)) ∧ Below B w w'

set_option maxRecDepth 100000 in
set_option maxHeartbeats 2000000 in
theorem pnum_any (T : PT) : ∀ (b B : Nat) (a : Option Addr) (n cap : Nat) (xs : List Int) (N : List Nat) (w0 w : World), PMem w0 N T → Below w0.heap.size w0 w → w0.heap.size ≤ B → N[T.id]? = some b → w.ownsRow B 3 1 (.slice a n cap) n (ints xs) → xs.length = n → n + T.wide ≤ 1000 → B ≤ w.heap.size →
    Calls Try.prog 80 #[.pointer (some ⟨b, 0, none⟩), .slice a n cap] w (NumRet B n xs T w) := by
  induction T with
  | leaf j v =>
    intro b B a n cap xs N w0 w hm h0 hB0 hb hO hl hn hB
    obtain ⟨b', hb', hbx⟩ := hm
    obtain rfl : b' = b := by have e : N[j]? = some b := hb; rw [hb'] at e; simpa using e
    have hbx := hbx.below h0
    have c1 : w.cell? ⟨b', 1, none⟩ = some (.int .i64 1) := hbx.cell 1 rfl
    have c0 : w.cell? ⟨b', 0, none⟩ = some (.int .i64 v) := hbx.cell 0 rfl
    have HO := Kp.mk hO
    rw [PT.wide_leaf] at hn
    clear hbx hb hb' hl h0 hO
    go_enter Try.func80, Try.ntmps80
    go_wp2_with (at_builtin; refine wpList_pushS tInts rfl _ _ rfl B a n cap _ rfl HO.out 1 _ rfl rfl ?d1 ?d2 (by decide) hB ?d4)
    case d1 => simp [Value.oneCell']
    case d2 => omega
    case d4 =>
      intro sa sc w1 hown hg hno
      have HF := Kp.mk (show w1.ownsRow B 3 1 (.slice sa (n + 1) sc) (n + 1) (ints (xs ++ [v])) from by rw [ints_append]; exact hown)
      have HB := Kp.mk (below_of_grown hg hB (fun q hq => (own_lt HO.out q hq).1))
      clear hown hg hno
      go_wp2
      go_ret
      exact ⟨sa, sc, rfl, HF.out, HB.out⟩
  | node j l r ihl ihr =>
    intro b B a n cap xs N w0 w hm h0 hB0 hb hO hl hn hB
    obtain ⟨b', p, xl, xr, hb', hxl, hxr, hbx, hpx, hml, hmr⟩ := hm
    obtain rfl : b' = b := by have e : N[j]? = some b := hb; rw [hb'] at e; simpa using e
    rw [PT.wide_node] at hn
    have hl0 := l.wide_pos
    have hr0 := r.wide_pos
    obtain ⟨W, hW⟩ : ∃ W, W = l.wide + r.wide := ⟨_, rfl⟩
    rw [← hW] at hbx
    have HC := Kp.mk (fun (w' : World) (h : Below B w w') => show w'.cell? ⟨b', 2, none⟩ = some (.pointer (some ⟨p, 0, none⟩)) ∧ w'.cell? ⟨p, 0, none⟩ = some (.pointer (some ⟨xl, 0, none⟩)) ∧ w'.cell? ⟨p, 1, none⟩ = some (.pointer (some ⟨xr, 0, none⟩)) from by
      have hb' := h0.trans (h.mono hB0)
      exact ⟨(hbx.below hb').cell 2 rfl, (hpx.below hb').cell 0 rfl, (hpx.below hb').cell 1 rfl⟩)
    have hbx := hbx.below h0
    have hpx := hpx.below h0
    have c1 : w.cell? ⟨b', 1, none⟩ = some (.int .i64 (W : Nat)) := hbx.cell 1 rfl
    have c2 : w.cell? ⟨b', 2, none⟩ = some (.pointer (some ⟨p, 0, none⟩)) := hbx.cell 2 rfl
    have p0 : w.cell? ⟨p, 0, none⟩ = some (.pointer (some ⟨xl, 0, none⟩)) := hpx.cell 0 rfl
    have p1 : w.cell? ⟨p, 1, none⟩ = some (.pointer (some ⟨xr, 0, none⟩)) := hpx.cell 1 rfl
    have ht : (((W : Nat) : Int) == 1) = false := beq_eq_false_iff_ne.2 (by omega)
    have hdr : Below w0.heap.size w0 w.drew := h0.drew
    have C1 := Kp.mk (ihl xl B a n cap xs N w0 w.drew hml hdr hB0 hxl hO.drew hl (by omega) hB)
    have C2 := Kp.mk (fun (a1 : Option Addr) (c1 : Nat) (w1 : World) (hb1 : Below B w.drew w1) (ho : w1.ownsRow B 3 1 (.slice a1 (n + l.wide) c1) (n + l.wide) (ints (xs ++ l.vals))) => ihr xr B a1 (n + l.wide) c1 (xs ++ l.vals) N w0 w1 hmr (hdr.trans (hb1.mono hB0)) hB0 hxr ho (by rw [List.length_append, hl]; rfl) (by omega) (Nat.le_trans hB hb1.size))
    have HD := Kp.mk (show Below B w w.drew from (Below.refl B w).drew)
    have HF := Kp.mk (show (xs ++ l.vals) ++ r.vals = xs ++ (PT.node j l r).vals ∧ n + l.wide + r.wide = n + (PT.node j l r).wide from ⟨by rw [List.append_assoc]; rfl, by rw [PT.wide_node]; omega⟩)
    clear hbx hpx hml hmr h0 hb hb' hxl hxr hO hl hn hdr ihl ihr hW hl0 hr0
    go_enter Try.func80, Try.ntmps80
    go_wp2
    go_region_held3 (fun w' => w'.cell? ⟨b', 2, none⟩ = some (.pointer (some ⟨p, 0, none⟩)) ∧ w'.cell? ⟨p, 0, none⟩ = some (.pointer (some ⟨xl, 0, none⟩)) ∧ w'.cell? ⟨p, 1, none⟩ = some (.pointer (some ⟨xr, 0, none⟩)))
      (first | exact ⟨c2, p0, p1⟩ | exact hS2 | exact hS1 | go_keep)
      ((first
        | (go_at_call 80; (with_reducible refine C1.out.mono ?_); rintro e w1 ⟨a1, k1, rfl, ho1, hb1⟩; have hS1 := HC.out w1 (HD.out.trans hb1))
        | (go_at_call 80; (with_reducible refine (C2.out a1 k1 w1 hb1 ho1).mono ?_); rintro e w2 ⟨a2, k2, rfl, ho2, hb2⟩; have hS2 := HC.out w2 ((HD.out.trans hb1).trans hb2))))
    all_goals
      have HB := Kp.mk ((HD.out.trans hb1).trans hb2)
      rw [HF.out.1, HF.out.2] at ho2
      rw [HF.out.2]
      have HO := Kp.mk ho2
      clear hS1 hS2 ho1 hb1 ho2 hb2 C1 C2 c1 c2 p0 p1
      go_wp2
      go_ret
      exact ⟨a2, k2, rfl, HO.out, HB.out⟩

end Go.Proofs.Ytjicgndahpffbaa

/- Expressions of raw numbers: the walk of ExprOf. -/
import Derived.Test.YtakabjkhcdkkjaaDoorQryP
import Derived.Test.YtakabjkhcdkkjaaDoorRectOf
import Derived.Test.YtakabjkhcdkkjaaDoorTwo
namespace Go.Proofs.YtakabjkhcdkkjaaDoor
set_option linter.unusedVariables false
open Go.RowKit

/-- An expression in memory, in blocks of a kind. -/
def IsExB (P : Nat → Prop) (w : World) : Ex → ExV → Prop
  | .inn a b c d, v => v = ⟨1, a, b, c, d, 0, none, 0, 0⟩
  | .hv x, v => v = ⟨2, 0, 0, 0, 0, x, none, 0, 0⟩
  | .not p, v => ∃ sa cap vp, v = ⟨5, 0, 0, 0, 0, 0, sa, 1, cap⟩ ∧ SlF exL 7 w sa 1 cap [vp] ∧ (∀ k, blk sa = some k → P k ∧ k < w.heap.size) ∧ IsExB P w p vp
  | .two o p q, v => ∃ sa cap vp vq, v = ⟨Ex.ok o, 0, 0, 0, 0, 0, sa, 2, cap⟩ ∧ SlF exL 7 w sa 2 cap [vp, vq] ∧ (∀ k, blk sa = some k → P k ∧ k < w.heap.size) ∧ IsExB P w p vp ∧ IsExB P w q vq
  | .three o p q r, v => ∃ sa cap vp vq vr, v = ⟨Ex.ok o, 0, 0, 0, 0, 0, sa, 3, cap⟩ ∧ SlF exL 7 w sa 3 cap [vp, vq, vr] ∧ (∀ k, blk sa = some k → P k ∧ k < w.heap.size) ∧ IsExB P w p vp ∧ IsExB P w q vq ∧ IsExB P w r vr
theorem IsExB.is {P : Nat → Prop} {w : World} : ∀ {x : Ex} {v : ExV}, IsExB P w x v → IsEx w x v
  | .inn .., v, h => h
  | .hv _, v, h => h
  | .not p, v, h => by obtain ⟨sa, cap, vp, h1, h2, _, h3⟩ := h; exact ⟨sa, cap, vp, h1, h2, h3.is⟩
  | .two o p q, v, h => by obtain ⟨sa, cap, vp, vq, h1, h2, _, h3, h4⟩ := h; exact ⟨sa, cap, vp, vq, h1, h2, h3.is, h4.is⟩
  | .three o p q r, v, h => by obtain ⟨sa, cap, vp, vq, vr, h1, h2, _, h3, h4, h5⟩ := h; exact ⟨sa, cap, vp, vq, vr, h1, h2, h3.is, h4.is, h5.is⟩
theorem slF_keepB {P : Nat → Prop} {w w' : World} {sa : Option Addr} {n cap : Nat} {vs : List ExV} (h : SlF exL 7 w sa n cap vs) (hb : ∀ k, blk sa = some k → P k ∧ k < w.heap.size) (hk : ∀ k, P k → k < w.heap.size → w'.heap[k]? = w.heap[k]?) : SlF exL 7 w' sa n cap vs :=
  ⟨h.hlen, h.le, h.capm, h.nil, fun i hi => by
    obtain ⟨b, off, ha, hc⟩ := h.cell i hi
    subst ha
    obtain ⟨h1, h2⟩ := hb b rfl
    refine ⟨b, off, rfl, ?_⟩
    rw [← hc]
    unfold World.cell?
    dsimp only
    rw [hk b h1 h2]⟩
theorem IsExB.keep {P Q : Nat → Prop} {w w' : World} (hk : ∀ k, P k → k < w.heap.size → w'.heap[k]? = w.heap[k]?) (hz : w.heap.size ≤ w'.heap.size) (hq : ∀ k, P k → k < w.heap.size → Q k) : ∀ {x : Ex} {v : ExV}, IsExB P w x v → IsExB Q w' x v
  | .inn .., v, h => h
  | .hv _, v, h => h
  | .not p, v, h => by
    obtain ⟨sa, cap, vp, h1, h2, hb, h3⟩ := h
    exact ⟨sa, cap, vp, h1, slF_keepB h2 hb hk, fun k e => ⟨hq k (hb k e).1 (hb k e).2, Nat.lt_of_lt_of_le (hb k e).2 hz⟩, IsExB.keep hk hz hq h3⟩
  | .two o p q, v, h => by
    obtain ⟨sa, cap, vp, vq, h1, h2, hb, h3, h4⟩ := h
    exact ⟨sa, cap, vp, vq, h1, slF_keepB h2 hb hk, fun k e => ⟨hq k (hb k e).1 (hb k e).2, Nat.lt_of_lt_of_le (hb k e).2 hz⟩, IsExB.keep hk hz hq h3, IsExB.keep hk hz hq h4⟩
  | .three o p q r, v, h => by
    obtain ⟨sa, cap, vp, vq, vr, h1, h2, hb, h3, h4, h5⟩ := h
    exact ⟨sa, cap, vp, vq, vr, h1, slF_keepB h2 hb hk, fun k e => ⟨hq k (hb k e).1 (hb k e).2, Nat.lt_of_lt_of_le (hb k e).2 hz⟩, IsExB.keep hk hz hq h3, IsExB.keep hk hz hq h4, IsExB.keep hk hz hq h5⟩
theorem IsExB.below {P : Nat → Prop} {w w' : World} {x : Ex} {v : ExV} (h : IsExB P w x v) (hb : Below w.heap.size w w') : IsExB P w' x v := h.keep (fun k _ hk => hb.block k hk) hb.size (fun k hk _ => hk)

theorem info_exs : (Tryd.prog.info? 27).map (fun i => (i.zero, i.size, i.bytes)) = some (some (.agg #[.int .i64 0, .int .i64 0, .int .i64 0, .int .i64 0, .int .i64 0, .int .i64 0, .slice none 0 0]), 7, 72) := by kernel_rfl
theorem tExs : ElemTy Tryd.prog 25 27 7 72 (.agg #[.int .i64 0, .int .i64 0, .int .i64 0, .int .i64 0, .int .i64 0, .int .i64 0, .slice none 0 0]) :=
  ⟨Tryd.underlying25, by obtain ⟨i0, hi, h0, h1, h2⟩ := info_parts info_exs; exact ⟨i0, hi, h0, h1, h2⟩, rfl, by decide⟩

/-- What is left of the raw numbers. -/
structure Raw (w : World) (la : Option Addr) (ln lc : Nat) (l : List Int) : Prop where
  sl : SlI w la lc l
  len : l.length = ln
  bd : ∀ z ∈ l, -9223372036854775808 ≤ z ∧ z ≤ 9223372036854775807
theorem Raw.below {w w' : World} {la : Option Addr} {ln lc : Nat} {l : List Int} (h : Raw w la ln lc l) (hb : Below w.heap.size w w') : Raw w' la ln lc l := ⟨h.sl.below hb, h.len, h.bd⟩

theorem wf_of_bd {x : Int} (h : -9223372036854775808 ≤ x ∧ x ≤ 9223372036854775807) : (Lit.int .i64 x).wf = true := by
  simpa [Lit.wf, IntKind.min, IntKind.max, IntKind.signed, IntKind.bits] using h
theorem len_two {α : Type _} {l : List α} (h : l.length = 2) : ∃ a b, l = [a, b] := by
  match l, h with
  | [a, b], _ => exact ⟨a, b, rfl⟩
theorem len_three {α : Type _} {l : List α} (h : l.length = 3) : ∃ a b c, l = [a, b, c] := by
  match l, h with
  | [a, b, c], _ => exact ⟨a, b, c, rfl⟩
/-- What is left of a list, wherever it is read. -/
structure Suf (la : Option Addr) (ln lc : Nat) (l : List Int) (la' : Option Addr) (ln' lc' : Nat) (l' : List Int) : Prop where
  out : ∀ W, Raw W la ln lc l → Raw W la' ln' lc' l'
theorem st7_box {w : World} {b : Nat} {t : TypeId} {a0 a1 a2 a3 a4 a5 a6 : Value} (h : Box w b #[a0, a1, a2, a3, a4, a5, a6] t) (v0 v1 v2 v3 v4 v5 v6 : Value) :
    Box (((((((w.setCell ⟨b, 0, none⟩ v0).setCell ⟨b, 1, none⟩ v1).setCell ⟨b, 2, none⟩ v2).setCell ⟨b, 3, none⟩ v3).setCell ⟨b, 4, none⟩ v4).setCell ⟨b, 5, none⟩ v5).setCell ⟨b, 6, none⟩ v6) b #[v0, v1, v2, v3, v4, v5, v6] t := by
  have := box_put (i := 6) (box_put (i := 5) (box_put (i := 4) (box_put (i := 3) (box_put (i := 2) (box_put (i := 1) (box_put (i := 0) h v0) v1) v2) v3) v4) v5) v6
  simpa using this
theorem st7_grown (w : World) (b : Nat) (v0 v1 v2 v3 v4 v5 v6 : Value) :
    w.grownBy (((((((w.setCell ⟨b, 0, none⟩ v0).setCell ⟨b, 1, none⟩ v1).setCell ⟨b, 2, none⟩ v2).setCell ⟨b, 3, none⟩ v3).setCell ⟨b, 4, none⟩ v4).setCell ⟨b, 5, none⟩ v5).setCell ⟨b, 6, none⟩ v6) (some b) :=
  grown_trans (grown_trans (grown_trans (grown_trans (grown_trans (grown_trans (grown_set w b 0 v0) (grown_set _ b 1 v1)) (grown_set _ b 2 v2)) (grown_set _ b 3 v3)) (grown_set _ b 4 v4)) (grown_set _ b 5 v5)) (grown_set _ b 6 v6)
/-- What ExprOf does at a depth. -/
def ExOfC (deep : Nat) : Prop := ∀ (la : Option Addr) (ln lc : Nat) (l : List Int) (w : World), Raw w la ln lc l →
    Calls Tryd.prog 4 #[.slice la ln lc, .int .i64 (deep : Int)] w fun e w' => ∃ v x la' ln' lc' l', e = .returned (.tuple #[.agg (exL v).toArray, .slice la' ln' lc']) ∧ Kp (IsExB (fun k => w.heap.size ≤ k) w' x v) ∧ Kp (x.small ∧ x.dep ≤ max deep 1) ∧ Kp (Suf la ln lc l la' ln' lc' l') ∧ Kp (Below w.heap.size w w')
theorem Raw.tail {w : World} {b o ln lc : Nat} {l : List Int} (h : Raw w (some ⟨b, o, none⟩) ln lc l) (h0 : 0 < ln) : Raw w (some ⟨b, o + 1, none⟩) (ln - 1) (lc - 1) (l.drop 1) := by
  have hl := h.len
  refine ⟨⟨?_, ?_, ?_, fun e => (by cases e), fun i hi => ?_⟩, by rw [List.length_drop, hl], fun z hz => h.bd z (List.mem_of_mem_drop hz)⟩
  · rw [ints_length, Nat.mul_one]
  · rw [List.length_drop]; have := h.sl.le; omega
  · have := h.sl.capm; omega
  · have hi' : i + 1 < l.length := by rw [ints_length, List.length_drop] at hi; omega
    obtain ⟨b', o', e, hc⟩ := h.sl.at (i + 1) hi'
    simp only [Option.some.injEq, Addr.mk.injEq, and_true] at e
    obtain ⟨rfl, rfl⟩ := e
    refine ⟨_, _, rfl, ?_⟩
    rw [show o + 1 + i = o + (i + 1) by omega, hc]
    congr 1
    unfold ints
    simp
theorem Raw.tail0 {w : World} {a : Option Addr} {ln lc : Nat} {l : List Int} (h : Raw w a ln lc l) (h1 : ln = 1) (hc : lc = 1) : Raw w a 0 0 (l.drop 1) := by
  have hl := h.len
  have hd : l.drop 1 = [] := by rw [← List.length_eq_zero_iff, List.length_drop]; omega
  rw [hd]
  exact ⟨⟨rfl, Nat.le_refl _, Nat.zero_le _, fun _ => rfl, fun i hi => absurd hi (by simp [ints])⟩, rfl, fun z hz => absurd hz (by simp)⟩

set_option maxRecDepth 100000 in
set_option maxHeartbeats 16000000 in
theorem exprOf_step (deep : Nat) (hd : deep ≤ 100) (ih : 1 < deep → ExOfC (deep - 1)) : ExOfC deep := by
  intro la ln lc l w hr
  have HR := Kp.mk hr
  have HI := Kp.mk ih
  have hlc : ln ≤ lc := by have := hr.sl.le; have := hr.len; omega
  have hal := below_alloc (Nat.le_refl w.heap.size) (.cells #[.int .i64 0, .int .i64 0, .int .i64 0, .int .i64 0, .int .i64 0, .int .i64 0, .slice none 0 0] 27)
  have HBX := Kp.mk (Box.new w #[.int .i64 0, .int .i64 0, .int .i64 0, .int .i64 0, .int .i64 0, .int .i64 0, .slice none 0 0] 27)
  obtain ⟨bz, hbz⟩ : ∃ bz, w.heap.size = bz := ⟨_, rfl⟩
  obtain ⟨w1, hw1⟩ : ∃ w1, w.alloc (.cells #[.int .i64 0, .int .i64 0, .int .i64 0, .int .i64 0, .int .i64 0, .int .i64 0, .slice none 0 0] 27) = w1 := ⟨_, rfl⟩
  rw [hw1] at hal HBX
  rw [hbz] at HBX
  have HA := Kp.mk hal
  have HR1 := Kp.mk (hr.below hal)
  have HBZ := Kp.mk hbz
  clear hr ih hal
  go_enter Tryd.func4, Tryd.ntmps4
  go_upto_if 14 with (fail)
  try rw [hw1]
  try simp only [hbz]
  clear hw1 hbz
  go_cut [0, 6] (fun v0 v6 wx => ∃ (n0 : Int) (la1 : Option Addr) (ln1 lc1 : Nat) (l1 : List Int), v6 = .int .i64 n0 ∧ v0 = .slice la1 ln1 lc1 ∧ (-9223372036854775808 ≤ n0 ∧ n0 ≤ 9223372036854775807) ∧ Kp (Suf la ln lc l la1 ln1 lc1 l1) ∧ wx = w1)
  case first =>
    by_cases h0 : 0 < ln
    · have hz : (0 : Int) < ln := by omega
      obtain ⟨b, o, rfl, c0⟩ := HR1.out.sl.at 0 (by rw [HR1.out.len]; exact h0)
      rw [Nat.add_zero] at c0
      have hlb := HR1.out.bd (l[0]'(by rw [HR1.out.len]; exact h0)) (List.getElem_mem _)
      generalize l[0]'(by rw [HR1.out.len]; exact h0) = z at *
      by_cases hc : lc = 1
      · obtain rfl : ln = 1 := by omega
        subst hc
        have HT := Kp.mk (show Suf (some ⟨b, o, none⟩) 1 1 l _ _ _ _ from ⟨fun W h => h.tail0 rfl rfl⟩)
        clear HR1 HR
        go_wp2
        go_meet
        exact ⟨z, _, _, _, _, rfl, rfl, hlb, HT, rfl⟩
      · have HT := Kp.mk (show Suf (some ⟨b, o, none⟩) ln lc l _ _ _ _ from ⟨fun W h => h.tail h0⟩)
        have hc1 : ¬ lc - 1 = 0 := by omega
        have h1z : (1 : Int) ≤ ln := by omega
        clear HR1 HR
        go_wp2
        go_meet
        exact ⟨z, _, _, _, _, rfl, rfl, hlb, HT, rfl⟩
    · obtain rfl : ln = 0 := by omega
      go_wp2
      go_meet
      exact ⟨0, _, _, _, _, rfl, rfl, by omega, ⟨⟨fun W h => h⟩⟩, rfl⟩
  case rest =>
  obtain ⟨n0, la1, ln1, lc1, l1, rfl, rfl, ⟨n1, n2⟩, HRT, rfl⟩ := hcut
  clear HR1 hlc
  have hk8 := pick_bd n0 8 (by omega)
  have CP := Kp.mk (fun W => picked_any n0 8 W (by omega) (by omega) n1 n2)
  obtain ⟨k, hk⟩ : ∃ k : Nat, pick n0 8 = (k : Int) := ⟨(pick n0 8).toNat, by omega⟩
  rw [hk] at CP hk8
  clear hk
  have HQ8 := Kp.mk (tdiv_bd n0 8 (by omega) n1 n2)
  have HQ64 := Kp.mk (tdiv_bd n0 64 (by omega) n1 n2)
  have HQ512 := Kp.mk (tdiv_bd n0 512 (by omega) n1 n2)
  have HQ4096 := Kp.mk (tdiv_bd n0 4096 (by omega) n1 n2)
  have CR := Kp.mk (fun W => rectOf_any (n0.tdiv 8) (n0.tdiv 64) (n0.tdiv 512) (n0.tdiv 4096) 20 W (by omega) (by omega) (wf_of_bd HQ8.out) (wf_of_bd HQ64.out) (wf_of_bd HQ512.out) (wf_of_bd HQ4096.out))
  by_cases hleaf : deep ≤ 1 ∨ k < 3
  · by_cases he : k % 2 = 0
    · have hor : (deep ≤ 1 ∧ (deep : Int) ≤ 1) ∨ (¬ deep ≤ 1 ∧ ¬ (deep : Int) ≤ 1 ∧ (k : Int) < 3) := by omega
      have he2 : ((k : Int) % 2 == 0) = true := by have : (k : Int) % 2 = 0 := by omega
                                                   rw [this]; rfl
      rcases hor with ⟨g1, g2⟩ | ⟨g1, g2, g3⟩
      all_goals
        go_wp2_with (first
          | (go_at_call 5; with_reducible refine (CP.out _).mono ?_; rintro e w' ⟨rfl, rfl⟩)
          | fail)
        refine (CR.out _).mono ?_
        rintro e w2 ⟨X0, Y0, X1, Y1, hx, hx1, hy, hy1, rfl, hb2⟩
        have HB2 := Kp.mk (below_step HA.out hb2)
        have hx0 := HBX.out.below hb2
        obtain ⟨x0, ex0⟩ : ∃ z : Int, (X0 : Int) = z := ⟨_, rfl⟩
        obtain ⟨y0, ey0⟩ : ∃ z : Int, (Y0 : Int) = z := ⟨_, rfl⟩
        obtain ⟨x1, ex1⟩ : ∃ z : Int, (X1 : Int) = z := ⟨_, rfl⟩
        obtain ⟨y1, ey1⟩ : ∃ z : Int, (Y1 : Int) = z := ⟨_, rfl⟩
        rw [ex0, ey0, ex1, ey1]
        have HSM := Kp.mk (show (Ex.inn x0 y0 x1 y1).small from by unfold Ex.small; omega)
        clear hx hx1 hy hy1 ex0 ey0 ex1 ey1 hb2
        have k0 : w2.cell? ⟨bz, 0, none⟩ = some (.int .i64 0) := hx0.cell 0 rfl
        have k1 : w2.cell? ⟨bz, 1, none⟩ = some (.int .i64 0) := hx0.cell 1 rfl
        have k2 : w2.cell? ⟨bz, 2, none⟩ = some (.int .i64 0) := hx0.cell 2 rfl
        have k3 : w2.cell? ⟨bz, 3, none⟩ = some (.int .i64 0) := hx0.cell 3 rfl
        have k4 : w2.cell? ⟨bz, 4, none⟩ = some (.int .i64 0) := hx0.cell 4 rfl
        have k5 : w2.cell? ⟨bz, 5, none⟩ = some (.int .i64 0) := hx0.cell 5 rfl
        have k6 : w2.cell? ⟨bz, 6, none⟩ = some (.slice none 0 0) := hx0.cell 6 rfl
        have q0 := hx0.free 0
        have q1 := hx0.free 1
        have q2 := hx0.free 2
        have q3 := hx0.free 3
        have q4 := hx0.free 4
        have q5 := hx0.free 5
        have q6 := hx0.free 6
        have HX9 := Kp.mk (st7_box hx0 (.int .i64 1) (.int .i64 x0) (.int .i64 y0) (.int .i64 x1) (.int .i64 y1) (.int .i64 0) (.slice none 0 0))
        have HB9 := Kp.mk (HB2.out.trans (below_of_grown (st7_grown w2 bz (.int .i64 1) (.int .i64 x0) (.int .i64 y0) (.int .i64 x1) (.int .i64 y1) (.int .i64 0) (.slice none 0 0)) HB2.out.size (fun q hq => by cases hq; rw [HBZ.out]; exact Nat.le_refl _)))
        clear hx0
        go_wp2
        clear k0 k1 k2 k3 k4 k5 k6 q0 q1 q2 q3 q4 q5 q6
        generalize (((((((w2.setCell ⟨bz, 0, none⟩ (.int .i64 1)).setCell ⟨bz, 1, none⟩ (.int .i64 x0)).setCell ⟨bz, 2, none⟩ (.int .i64 y0)).setCell ⟨bz, 3, none⟩ (.int .i64 x1)).setCell ⟨bz, 4, none⟩ (.int .i64 y1)).setCell ⟨bz, 5, none⟩ (.int .i64 0)).setCell ⟨bz, 6, none⟩ (.slice none 0 0)) = w9 at *
        have z0 : w9.cell? ⟨bz, 0, none⟩ = some (.int .i64 1) := HX9.out.cell 0 rfl
        have z1 : w9.cell? ⟨bz, 1, none⟩ = some (.int .i64 x0) := HX9.out.cell 1 rfl
        have z2 : w9.cell? ⟨bz, 2, none⟩ = some (.int .i64 y0) := HX9.out.cell 2 rfl
        have z3 : w9.cell? ⟨bz, 3, none⟩ = some (.int .i64 x1) := HX9.out.cell 3 rfl
        have z4 : w9.cell? ⟨bz, 4, none⟩ = some (.int .i64 y1) := HX9.out.cell 4 rfl
        have z5 : w9.cell? ⟨bz, 5, none⟩ = some (.int .i64 0) := HX9.out.cell 5 rfl
        have z6 : w9.cell? ⟨bz, 6, none⟩ = some (.slice none 0 0) := HX9.out.cell 6 rfl
        refine bodyPost_ret (v := .tuple #[.agg #[(.int .i64 1), (.int .i64 x0), (.int .i64 y0), (.int .i64 x1), (.int .i64 y1), (.int .i64 0), .slice none 0 0], .slice la1 ln1 lc1]) (by simp [results, Tryd.results4, go_sem, z0, z1, z2, z3, z4, z5, z6]) rfl ?_
        exact ⟨⟨1, x0, y0, x1, y1, 0, none, 0, 0⟩, .inn x0 y0 x1 y1, la1, ln1, lc1, l1, rfl, ⟨rfl⟩, ⟨HSM.out, by simp only [Ex.dep]; omega⟩, HRT, HB9⟩
    · have hor : (deep ≤ 1 ∧ (deep : Int) ≤ 1) ∨ (¬ deep ≤ 1 ∧ ¬ (deep : Int) ≤ 1 ∧ (k : Int) < 3) := by omega
      have he2 : ((k : Int) % 2 == 0) = false := by have : (k : Int) % 2 = 1 := by omega
                                                    rw [this]; rfl
      have hp20 := pick_bd (n0.tdiv 8) 20 (by omega)
      have C20 := Kp.mk (fun W => picked_any (n0.tdiv 8) 20 W (by omega) (by omega) HQ8.out.1 HQ8.out.2)
      obtain ⟨p, hpe⟩ : ∃ p, pick (n0.tdiv 8) 20 = p := ⟨_, rfl⟩
      rw [hpe] at C20 hp20
      obtain ⟨y, hy⟩ : ∃ y, p - 3 = y := ⟨_, rfl⟩
      have ey : IntKind.i64.wrap (p - 3) = y := by rw [hy]; exact IntWalk.i64_in _ (by omega)
      have HSM := Kp.mk (show (Ex.hv y).small from by unfold Ex.small; omega)
      clear hpe hy
      rcases hor with ⟨g1, g2⟩ | ⟨g1, g2, g3⟩
      all_goals
        obtain ⟨w2, hw2⟩ : ∃ w2, w2 = wc := ⟨_, rfl⟩
        subst hw2
        have HB2 := HA
        have hx0 := HBX.out
        have k0 : w2.cell? ⟨bz, 0, none⟩ = some (.int .i64 0) := hx0.cell 0 rfl
        have k1 : w2.cell? ⟨bz, 1, none⟩ = some (.int .i64 0) := hx0.cell 1 rfl
        have k2 : w2.cell? ⟨bz, 2, none⟩ = some (.int .i64 0) := hx0.cell 2 rfl
        have k3 : w2.cell? ⟨bz, 3, none⟩ = some (.int .i64 0) := hx0.cell 3 rfl
        have k4 : w2.cell? ⟨bz, 4, none⟩ = some (.int .i64 0) := hx0.cell 4 rfl
        have k5 : w2.cell? ⟨bz, 5, none⟩ = some (.int .i64 0) := hx0.cell 5 rfl
        have k6 : w2.cell? ⟨bz, 6, none⟩ = some (.slice none 0 0) := hx0.cell 6 rfl
        have q0 := hx0.free 0
        have q1 := hx0.free 1
        have q2 := hx0.free 2
        have q3 := hx0.free 3
        have q4 := hx0.free 4
        have q5 := hx0.free 5
        have q6 := hx0.free 6
        have HX9 := Kp.mk (st7_box hx0 (.int .i64 2) (.int .i64 0) (.int .i64 0) (.int .i64 0) (.int .i64 0) (.int .i64 y) (.slice none 0 0))
        have HB9 := Kp.mk (HB2.out.trans (below_of_grown (st7_grown w2 bz (.int .i64 2) (.int .i64 0) (.int .i64 0) (.int .i64 0) (.int .i64 0) (.int .i64 y) (.slice none 0 0)) HB2.out.size (fun q hq => by cases hq; rw [HBZ.out]; exact Nat.le_refl _)))
        clear hx0
        go_wp2_with (first
          | (go_at_call 5; with_reducible refine (CP.out _).mono ?_; rintro e w' ⟨rfl, rfl⟩)
          | (go_at_call 5; with_reducible refine (C20.out _).mono ?_; rintro e w' ⟨rfl, rfl⟩)
          | fail)
        clear k0 k1 k2 k3 k4 k5 k6 q0 q1 q2 q3 q4 q5 q6
        generalize (((((((w2.setCell ⟨bz, 0, none⟩ (.int .i64 2)).setCell ⟨bz, 1, none⟩ (.int .i64 0)).setCell ⟨bz, 2, none⟩ (.int .i64 0)).setCell ⟨bz, 3, none⟩ (.int .i64 0)).setCell ⟨bz, 4, none⟩ (.int .i64 0)).setCell ⟨bz, 5, none⟩ (.int .i64 y)).setCell ⟨bz, 6, none⟩ (.slice none 0 0)) = w9 at *
        have z0 : w9.cell? ⟨bz, 0, none⟩ = some (.int .i64 2) := HX9.out.cell 0 rfl
        have z1 : w9.cell? ⟨bz, 1, none⟩ = some (.int .i64 0) := HX9.out.cell 1 rfl
        have z2 : w9.cell? ⟨bz, 2, none⟩ = some (.int .i64 0) := HX9.out.cell 2 rfl
        have z3 : w9.cell? ⟨bz, 3, none⟩ = some (.int .i64 0) := HX9.out.cell 3 rfl
        have z4 : w9.cell? ⟨bz, 4, none⟩ = some (.int .i64 0) := HX9.out.cell 4 rfl
        have z5 : w9.cell? ⟨bz, 5, none⟩ = some (.int .i64 y) := HX9.out.cell 5 rfl
        have z6 : w9.cell? ⟨bz, 6, none⟩ = some (.slice none 0 0) := HX9.out.cell 6 rfl
        refine bodyPost_ret (v := .tuple #[.agg #[(.int .i64 2), (.int .i64 0), (.int .i64 0), (.int .i64 0), (.int .i64 0), (.int .i64 y), .slice none 0 0], .slice la1 ln1 lc1]) (by simp [results, Tryd.results4, go_sem, z0, z1, z2, z3, z4, z5, z6]) rfl ?_
        exact ⟨⟨2, 0, 0, 0, 0, y, none, 0, 0⟩, .hv y, la1, ln1, lc1, l1, rfl, ⟨rfl⟩, ⟨HSM.out, by simp only [Ex.dep]; omega⟩, HRT, HB9⟩
  · have hd2 : ¬ deep ≤ 1 := fun h => hleaf (.inl h)
    have hk3 : ¬ k < 3 := fun h => hleaf (.inr h)
    have g1 : ¬ (deep : Int) ≤ 1 := by omega
    have g2 : ¬ (k : Int) < 3 := by omega
    have hj3 := pick_bd (k : Int) 3 (by omega)
    have CJ := Kp.mk (fun W => picked_any (k : Int) 3 W (by omega) (by omega) (by omega) (by omega))
    obtain ⟨j, hj⟩ : ∃ j : Nat, pick (k : Int) 3 = (j : Int) := ⟨(pick (k : Int) 3).toNat, by omega⟩
    rw [hj] at CJ hj3
    have hm2 := pick_bd (n0.tdiv 8) 2 (by omega)
    have CM := Kp.mk (fun W => picked_any (n0.tdiv 8) 2 W (by omega) (by omega) HQ8.out.1 HQ8.out.2)
    obtain ⟨mm, hmm⟩ : ∃ mm : Nat, pick (n0.tdiv 8) 2 = (mm : Int) := ⟨(pick (n0.tdiv 8) 2).toNat, by omega⟩
    rw [hmm] at CM hm2
    have ej : IntKind.i64.wrap (3 + (j : Int)) = 3 + (j : Int) := IntWalk.i64_in _ (by omega)
    have em : IntKind.i64.wrap (2 + (mm : Int)) = 2 + (mm : Int) := IntWalk.i64_in _ (by omega)
    have ed : IntKind.i64.wrap ((deep : Int) - 1) = ((deep - 1 : Nat) : Int) := by rw [show (deep : Int) - 1 = ((deep - 1 : Nat) : Int) by omega]; exact IntWalk.i64_in _ (by omega)
    clear hj hmm hleaf CR HQ8 HQ64 HQ512 HQ4096
    obtain ⟨kd, hkd⟩ : ∃ z : Int, 3 + (j : Int) = z := ⟨_, rfl⟩
    rw [hkd] at ej
    have hal := below_alloc (Nat.le_refl wc.heap.size) (.cells #[.int .i64 kd, .int .i64 0, .int .i64 0, .int .i64 0, .int .i64 0, .int .i64 0, .slice none 0 0] 27)
    have hbn := Box.new wc #[.int .i64 kd, .int .i64 0, .int .i64 0, .int .i64 0, .int .i64 0, .int .i64 0, .slice none 0 0] 27
    obtain ⟨bx, hbx⟩ : ∃ bx, wc.heap.size = bx := ⟨_, rfl⟩
    obtain ⟨w2, hw2⟩ : ∃ w2, wc.alloc (.cells #[.int .i64 kd, .int .i64 0, .int .i64 0, .int .i64 0, .int .i64 0, .int .i64 0, .slice none 0 0] 27) = w2 := ⟨_, rfl⟩
    have HSZ2 := Kp.mk (show w2.heap.size = bx + 1 by rw [← hw2, alloc_size, hbx])
    rw [hw2] at hal hbn
    rw [hbx] at hbn
    have HBX2 := Kp.mk (HBX.out.below hal)
    have HBN := Kp.mk hbn
    have HB2 := Kp.mk (below_step HA.out hal)
    have HZB := Kp.mk (show bz < bx from by rw [← hbx]; exact HBX.out.lt)
    have x0 : w2.cell? ⟨bx, 0, none⟩ = some (.int .i64 kd) := hbn.cell 0 rfl
    have HKD := Kp.mk hkd
    have HW2 := Kp.mk hw2
    have HBXE := Kp.mk hbx
    have hbxx : (wc.alloc (.cells #[.int .i64 kd, .int .i64 0, .int .i64 0, .int .i64 0, .int .i64 0, .int .i64 0, .slice none 0 0] 27)).cell? ⟨wc.heap.size, 0, none⟩ = some (.int .i64 kd) := (Box.new wc #[.int .i64 kd, .int .i64 0, .int .i64 0, .int .i64 0, .int .i64 0, .int .i64 0, .slice none 0 0] 27).cell 0 rfl
    rw [← hkd] at ej
    have ej' : IntKind.i64.wrap (3 + (j : Int)) = kd := by rw [ej, hkd]
    clear ej hkd hw2 hbx hal hbn
    go_upto_if 54 with (first
      | (go_at_call 5; with_reducible refine (CP.out _).mono ?_; rintro e w' ⟨rfl, rfl⟩)
      | (go_at_call 5; with_reducible refine (CJ.out _).mono ?_; rintro e w' ⟨rfl, rfl⟩)
      | fail)
    simp only [HW2.out]
    simp only [HBXE.out]
    clear HW2 HBXE hbxx
    go_cut [9] (fun v9 wx => ∃ many : Nat, v9 = .int .i64 (many : Int) ∧ ((j = 2 ∧ many = 1) ∨ (j < 2 ∧ (many = 2 ∨ many = 3))) ∧ wx = w2)
    case first =>
      by_cases hj2 : j = 2
      · have hk5 : kd = 5 := by have := HKD.out; omega
        have hk5' : (kd != 5) = false := by rw [hk5]; rfl
        clear ej'
        go_wp2
        go_meet
        exact ⟨1, rfl, .inl ⟨hj2, rfl⟩, rfl⟩
      · have hk5 : ¬ kd = 5 := by have := HKD.out; omega
        have hk5' : (kd != 5) = true := by simpa using hk5
        have hmc := Kp.mk (show 2 + (mm : Int) = ((2 + mm : Nat) : Int) by omega)
        clear ej'
        go_wp2_with (first
          | (go_at_call 5; with_reducible refine (CM.out _).mono ?_; rintro e w' ⟨rfl, rfl⟩)
          | fail)
        go_meet
        exact ⟨2 + mm, by rw [hmc.out], .inr ⟨by omega, by omega⟩, rfl⟩
    case rest =>
    obtain ⟨many, rfl, hmany, rfl⟩ := hcut
    have hmn3 : 1 ≤ many ∧ many ≤ 3 := by omega
    clear ej' em CM hm2 CJ CP x0 g1 g2 hk8
    obtain ⟨C, hC⟩ : ∃ C, bx + 1 = C := ⟨_, rfl⟩
    rw [hC] at HSZ2
    have HCB := Kp.mk hC
    clear hC
    have HI2 := Kp.mk (HI.out (by omega))
    have HBF := Kp.mk (show bz < bx ∧ bx < C ∧ w.heap.size ≤ bz from ⟨HZB.out, by have := HCB.out; omega, by rw [HBZ.out]; exact Nat.le_refl _⟩)
    obtain ⟨w2, hw2⟩ : ∃ w2, w2 = wc := ⟨_, rfl⟩
    subst hw2
    go_wp2
    go_loopw [0, 10] (fun v0 v10 wr => ∃ (i : Nat) (la2 : Option Addr) (ln2 lc2 : Nat) (l2 : List Int) (ra : Option Addr) (rc : Nat) (xs : List Ex) (vs : List ExV), i ≤ many ∧ v10 = .int .i64 i ∧ v0 = .slice la2 ln2 lc2 ∧ Kp (Suf la ln lc l la2 ln2 lc2 l2) ∧ Kp (xs.length = i ∧ vs.length = i) ∧ Kp (Box wr bx #[.int .i64 kd, .int .i64 0, .int .i64 0, .int .i64 0, .int .i64 0, .int .i64 0, .slice ra i rc] 27) ∧ Kp (Box wr bz #[.int .i64 0, .int .i64 0, .int .i64 0, .int .i64 0, .int .i64 0, .int .i64 0, .slice none 0 0] 27) ∧ Kp (wr.ownsRow C 27 7 (.slice ra i rc) i (flat exL vs)) ∧ Kp (∀ q, q < i → IsExB (fun b => C ≤ b ∧ blk ra ≠ some b) wr (xs.getD q (.hv 0)) (vs.getD q ev0) ∧ (xs.getD q (.hv 0)).small ∧ (xs.getD q (.hv 0)).dep + 1 ≤ deep) ∧ Kp (Below w.heap.size w wr) ∧ Kp (C ≤ wr.heap.size)) (fun _ v10 _ => many - (intOf v10).toNat)
    case atStart => exact ⟨0, la1, ln1, lc1, l1, none, 0, [], [], Nat.zero_le _, rfl, rfl, HRT, ⟨rfl, rfl⟩, HBN, HBX2, ⟨World.ownsRow_nil _ _ _ _⟩, ⟨fun q hq => absurd hq (by omega)⟩, HB2, ⟨by rw [HSZ2.out]; exact Nat.le_refl _⟩⟩
    case round =>
      clear HRT HBN HBX2 HB2 HSZ2 HA HBX
      obtain ⟨i, la2, ln2, lc2, l2, ra, rc, xs, vs, hi, rfl, rfl, HSU, HLN, HBN, HBT, HO, HEX, HB, HCZ⟩ := hrel
      by_cases him : i < many
      · have hiz : (i : Int) < many := by omega
        have hal := below_alloc (Nat.le_refl wr.heap.size) (.cells #[.int .i64 0, .int .i64 0, .int .i64 0, .int .i64 0, .int .i64 0, .int .i64 0, .slice none 0 0] 27)
        have hbn := Box.new wr #[.int .i64 0, .int .i64 0, .int .i64 0, .int .i64 0, .int .i64 0, .int .i64 0, .slice none 0 0] 27
        go_upto_region 18 with (fail)
        obtain ⟨be, hbe⟩ : ∃ be, wr.heap.size = be := ⟨_, rfl⟩
        obtain ⟨w4, hw4⟩ : ∃ w4, wr.alloc (.cells #[.int .i64 0, .int .i64 0, .int .i64 0, .int .i64 0, .int .i64 0, .int .i64 0, .slice none 0 0] 27) = w4 := ⟨_, rfl⟩
        have HSZ4 := Kp.mk (show w4.heap.size = be + 1 by rw [← hw4, alloc_size, hbe])
        rw [hw4] at hal hbn
        rw [hbe] at hbn
        try simp only [hw4]
        try simp only [hbe]
        have HAL := Kp.mk hal
        have HBE := Kp.mk hbn
        have HBED := Kp.mk hbe
        have CI := Kp.mk (HI2.out la2 ln2 lc2 l2 w4 ((HSU.out.out w HR.out).below (HB.out.trans (hal.mono HB.out.size))))
        clear hal hbn hw4 hbe
        go_wp2_with fail
        refine CI.out.mono ?_
        rintro e w5 ⟨v, x, la3, ln3, lc3, l3, rfl, HXV, HXS, HS3, HB5⟩
        have HSU3 := Kp.mk (show Suf la ln lc l la3 ln3 lc3 l3 from ⟨fun W h => HS3.out.out W (HSU.out.out W h)⟩)
        have HBE5 := Kp.mk (HBE.out.below HB5.out)
        obtain ⟨uk, ua, ub, uc, ud, ux, us, un, uq⟩ := v
        rw [show (exL ⟨uk, ua, ub, uc, ud, ux, us, un, uq⟩).toArray = #[.int .i64 uk, .int .i64 ua, .int .i64 ub, .int .i64 uc, .int .i64 ud, .int .i64 ux, .slice us un uq] from rfl]
        have hx0 := HBE5.out
        have k0 : w5.cell? ⟨be, 0, none⟩ = some (.int .i64 0) := hx0.cell 0 rfl
        have k1 : w5.cell? ⟨be, 1, none⟩ = some (.int .i64 0) := hx0.cell 1 rfl
        have k2 : w5.cell? ⟨be, 2, none⟩ = some (.int .i64 0) := hx0.cell 2 rfl
        have k3 : w5.cell? ⟨be, 3, none⟩ = some (.int .i64 0) := hx0.cell 3 rfl
        have k4 : w5.cell? ⟨be, 4, none⟩ = some (.int .i64 0) := hx0.cell 4 rfl
        have k5 : w5.cell? ⟨be, 5, none⟩ = some (.int .i64 0) := hx0.cell 5 rfl
        have k6 : w5.cell? ⟨be, 6, none⟩ = some (.slice none 0 0) := hx0.cell 6 rfl
        have q0 := hx0.free 0
        have q1 := hx0.free 1
        have q2 := hx0.free 2
        have q3 := hx0.free 3
        have q4 := hx0.free 4
        have q5 := hx0.free 5
        have q6 := hx0.free 6
        have HX6 := Kp.mk (st7_box hx0 (.int .i64 uk) (.int .i64 ua) (.int .i64 ub) (.int .i64 uc) (.int .i64 ud) (.int .i64 ux) (.slice us un uq))
        have HG6 := Kp.mk (st7_grown w5 be (.int .i64 uk) (.int .i64 ua) (.int .i64 ub) (.int .i64 uc) (.int .i64 ud) (.int .i64 ux) (.slice us un uq))
        have hbr5 : Below wr.heap.size wr w5 := HAL.out.trans (HB5.out.mono HAL.out.size)
        have hrl := Kp.mk (fun g (hg : blk ra = some g) => own_lt HO.out g hg)
        have HBN6 := Kp.mk (box_grow (HBN.out.below hbr5) HG6.out (fun e => by have := HBED.out; have := HBN.out.lt; have := Option.some.inj e; omega))
        have HBT6 := Kp.mk (box_grow (HBT.out.below hbr5) HG6.out (fun e => by have := HBED.out; have := HBT.out.lt; have := Option.some.inj e; omega))
        have HO6 := Kp.mk (own_keep (own_below HO.out hbr5) HG6.out (fun q hq e => by cases hq; have := (hrl.out _ e).2; have := HBED.out; omega))
        have hcz6 : C ≤ wr.heap.size := HCZ.out
        have HBR5 := Kp.mk hbr5
        have HBT0 := Kp.mk (show be = wr.heap.size ∧ w4.heap.size = be + 1 from ⟨HBED.out.symm, HSZ4.out⟩)
        have HCB6 := Kp.mk (HB.out.trans (hbr5.mono HB.out.size))
        clear hx0 hbr5
        go_upto_region 19 with (fail)
        clear k0 k1 k2 k3 k4 k5 k6 q0 q1 q2 q3 q4 q5 q6
        generalize (((((((w5.setCell ⟨be, 0, none⟩ (.int .i64 uk)).setCell ⟨be, 1, none⟩ (.int .i64 ua)).setCell ⟨be, 2, none⟩ (.int .i64 ub)).setCell ⟨be, 3, none⟩ (.int .i64 uc)).setCell ⟨be, 4, none⟩ (.int .i64 ud)).setCell ⟨be, 5, none⟩ (.int .i64 ux)).setCell ⟨be, 6, none⟩ (.slice us un uq)) = w6 at *
        have z0 : w6.cell? ⟨be, 0, none⟩ = some (.int .i64 uk) := HX6.out.cell 0 rfl
        have z1 : w6.cell? ⟨be, 1, none⟩ = some (.int .i64 ua) := HX6.out.cell 1 rfl
        have z2 : w6.cell? ⟨be, 2, none⟩ = some (.int .i64 ub) := HX6.out.cell 2 rfl
        have z3 : w6.cell? ⟨be, 3, none⟩ = some (.int .i64 uc) := HX6.out.cell 3 rfl
        have z4 : w6.cell? ⟨be, 4, none⟩ = some (.int .i64 ud) := HX6.out.cell 4 rfl
        have z5 : w6.cell? ⟨be, 5, none⟩ = some (.int .i64 ux) := HX6.out.cell 5 rfl
        have z6 : w6.cell? ⟨be, 6, none⟩ = some (.slice us un uq) := HX6.out.cell 6 rfl
        have y6 : w6.cell? ⟨bx, 6, none⟩ = some (.slice ra i rc) := HBN6.out.cell 6 rfl
        have hsz6 : w5.heap.size ≤ w6.heap.size := HG6.out.size
        have hC6 : C ≤ w6.heap.size := Nat.le_trans hcz6 (Nat.le_trans HBR5.out.size hsz6)
        go_wp2_with (first
          | (at_builtin; refine wpList_pushS tExs (by rfl) _ _ (by rfl) C ra i rc _ (by rfl) HO6.out 1 _ (by rfl) (by rfl) ?d1 ?d2 (by decide) hC6 ?d4)
          | fail)
        case d1 => simp [Value.oneCell']
        case d2 => omega
        case d4 =>
          intro sa3 sc3 w8 hown3 hgr3 hno3
          have y8 : w8.cell? ⟨bx, 6, none⟩ = some (.slice ra i rc) := (box_grow HBN6.out hgr3 (fun e => by have := (hrl.out _ e).1; have := HBF.out; omega)).cell 6 rfl
          have f8 := (box_grow HBN6.out hgr3 (fun e => by have := (hrl.out _ e).1; have := HBF.out; omega)).free 6
          clear z0 z1 z2 z3 z4 z5 z6 y6
          go_wp2
          go_roundw
          case rel =>
            obtain ⟨hzx, hxc, hwz⟩ := HBF.out
            obtain ⟨e1, e2⟩ := HBT0.out
            have hws : wr.heap.size ≤ w5.heap.size := HBR5.out.size
            have hw4s : w4.heap.size ≤ w5.heap.size := HB5.out.size
            have hw8s : w6.heap.size ≤ w8.heap.size := hgr3.size
            have gf := grown_set w8 bx 6 (.slice sa3 (i + 1) sc3)
            have hrl' := hrl.out
            have hol := own_lt hown3
            refine ⟨i + 1, la3, ln3, lc3, l3, sa3, sc3, xs ++ [x], vs ++ [⟨uk, ua, ub, uc, ud, ux, us, un, uq⟩], by omega, by go_num, rfl, HSU3, ⟨by simp [HLN.out.1], by simp [HLN.out.2]⟩, ⟨?_⟩, ⟨?_⟩, ⟨?_⟩, ⟨?_⟩, ⟨?_⟩, ⟨?_⟩⟩
            · have := box_put (i := 6) (box_grow HBN6.out hgr3 (fun e => by have := (hrl' _ e).1; omega)) (.slice sa3 (i + 1) sc3)
              simpa using this
            · exact box_grow (box_grow HBT6.out hgr3 (fun e => by have := (hrl' _ e).1; omega)) gf (fun e => by have := Option.some.inj e; omega)
            · have h := own_keep hown3 gf (fun q hq e => by cases hq; have := (hol _ e).1; omega)
              rw [flat_append]; exact h
            · intro q hq
              have hsz8 : ∀ b, b < wr.heap.size → b < w8.heap.size := fun b hb => by omega
              by_cases hqi : q < i
              · obtain ⟨h1, h2, h3⟩ := HEX.out q hqi
                have ex : (xs ++ [x]).getD q (.hv 0) = xs.getD q (.hv 0) := by simp [List.getD, List.getElem?_append_left (show q < xs.length by rw [HLN.out.1]; exact hqi)]
                have ev : (vs ++ [(⟨uk, ua, ub, uc, ud, ux, us, un, uq⟩ : ExV)]).getD q ev0 = vs.getD q ev0 := by simp [List.getD, List.getElem?_append_left (show q < vs.length by rw [HLN.out.2]; exact hqi)]
                rw [ex, ev]
                refine ⟨h1.keep (fun b hb hbs => ?_) (by rw [size_setCell]; omega) (fun b hb hbs => ⟨hb.1, fun e => ?_⟩), h2, h3⟩
                · rw [gf.block b (by omega) (fun e => by have := Option.some.inj e; omega), hgr3.block b (by omega) (fun e => hb.2 e.symm), HG6.out.block b (by omega) (fun e => by have := Option.some.inj e; omega), HBR5.out.block b hbs]
                · rcases hno3 with h | ⟨g, hg, hge⟩
                  · exact hb.2 (by rw [← h]; exact e)
                  · rw [hg] at e; have := Option.some.inj e; omega
              · obtain rfl : q = i := by omega
                have ex : (xs ++ [x]).getD q (.hv 0) = x := by simp [List.getD, ← HLN.out.1]
                have ev : (vs ++ [(⟨uk, ua, ub, uc, ud, ux, us, un, uq⟩ : ExV)]).getD q ev0 = ⟨uk, ua, ub, uc, ud, ux, us, un, uq⟩ := by simp [List.getD, ← HLN.out.2]
                rw [ex, ev]
                refine ⟨HXV.out.keep (fun b hb hbs => ?_) (by rw [size_setCell]; omega) (fun b hb hbs => ⟨by omega, fun e => ?_⟩), HXS.out.1, by have := HXS.out.2; omega⟩
                · rw [gf.block b (by omega) (fun e => by have := Option.some.inj e; omega), hgr3.block b (by omega) (fun e => by have := (hrl' _ e.symm).2; omega), HG6.out.block b (by omega) (fun e => by have := Option.some.inj e; omega)]
                · rcases hno3 with h | ⟨g, hg, hge⟩
                  · rw [h] at e; have := (hrl' _ e).2; omega
                  · rw [hg] at e; have := Option.some.inj e; omega
            · exact ((HCB6.out.trans (below_of_grown HG6.out (by omega) (fun q hq => by cases hq; omega))).trans (below_of_grown hgr3 (by omega) (fun q hq => by have := (hrl' _ hq).1; omega))).trans (below_of_grown gf (by omega) (fun q hq => by cases hq; omega))
            · rw [size_setCell]; omega
          case measure => simp [intOf]; omega
      · obtain rfl : many = i := by omega
        obtain ⟨hzx, hxc, hwz⟩ := HBF.out
        have hx0 := HBT.out
        have k0 : wr.cell? ⟨bz, 0, none⟩ = some (.int .i64 0) := hx0.cell 0 rfl
        have k1 : wr.cell? ⟨bz, 1, none⟩ = some (.int .i64 0) := hx0.cell 1 rfl
        have k2 : wr.cell? ⟨bz, 2, none⟩ = some (.int .i64 0) := hx0.cell 2 rfl
        have k3 : wr.cell? ⟨bz, 3, none⟩ = some (.int .i64 0) := hx0.cell 3 rfl
        have k4 : wr.cell? ⟨bz, 4, none⟩ = some (.int .i64 0) := hx0.cell 4 rfl
        have k5 : wr.cell? ⟨bz, 5, none⟩ = some (.int .i64 0) := hx0.cell 5 rfl
        have k6 : wr.cell? ⟨bz, 6, none⟩ = some (.slice none 0 0) := hx0.cell 6 rfl
        have q0 := hx0.free 0
        have q1 := hx0.free 1
        have q2 := hx0.free 2
        have q3 := hx0.free 3
        have q4 := hx0.free 4
        have q5 := hx0.free 5
        have q6 := hx0.free 6
        have p0 : wr.cell? ⟨bx, 0, none⟩ = some (.int .i64 kd) := HBN.out.cell 0 rfl
        have p1 : wr.cell? ⟨bx, 1, none⟩ = some (.int .i64 0) := HBN.out.cell 1 rfl
        have p2 : wr.cell? ⟨bx, 2, none⟩ = some (.int .i64 0) := HBN.out.cell 2 rfl
        have p3 : wr.cell? ⟨bx, 3, none⟩ = some (.int .i64 0) := HBN.out.cell 3 rfl
        have p4 : wr.cell? ⟨bx, 4, none⟩ = some (.int .i64 0) := HBN.out.cell 4 rfl
        have p5 : wr.cell? ⟨bx, 5, none⟩ = some (.int .i64 0) := HBN.out.cell 5 rfl
        have p6 : wr.cell? ⟨bx, 6, none⟩ = some (.slice ra many rc) := HBN.out.cell 6 rfl
        have HX9 := Kp.mk (st7_box hx0 (.int .i64 kd) (.int .i64 0) (.int .i64 0) (.int .i64 0) (.int .i64 0) (.int .i64 0) (.slice ra many rc))
        have hg9 := st7_grown wr bz (.int .i64 kd) (.int .i64 0) (.int .i64 0) (.int .i64 0) (.int .i64 0) (.int .i64 0) (.slice ra many rc)
        have HB9 := Kp.mk (HB.out.trans (below_of_grown hg9 HB.out.size (fun q hq => by cases hq; exact hwz)))
        have HO9 := Kp.mk (own_keep HO.out hg9 (fun q hq e => by cases hq; have := (own_lt HO.out _ e).1; omega))
        have HE9 := Kp.mk (fun q (hq : q < many) => (HEX.out q hq).1.keep (Q := fun b => w.heap.size ≤ b) (fun b hb hbs => hg9.block b hbs (fun e => by have := Option.some.inj e; have := hb.1; omega)) hg9.size (fun b hb hbs => by have := hb.1; omega))
        clear hx0 hg9
        go_wp2
        clear k0 k1 k2 k3 k4 k5 k6 q0 q1 q2 q3 q4 q5 q6 p0 p1 p2 p3 p4 p5 p6
        generalize (((((((wr.setCell ⟨bz, 0, none⟩ (.int .i64 kd)).setCell ⟨bz, 1, none⟩ (.int .i64 0)).setCell ⟨bz, 2, none⟩ (.int .i64 0)).setCell ⟨bz, 3, none⟩ (.int .i64 0)).setCell ⟨bz, 4, none⟩ (.int .i64 0)).setCell ⟨bz, 5, none⟩ (.int .i64 0)).setCell ⟨bz, 6, none⟩ (.slice ra many rc)) = w9 at *
        have z0 : w9.cell? ⟨bz, 0, none⟩ = some (.int .i64 kd) := HX9.out.cell 0 rfl
        have z1 : w9.cell? ⟨bz, 1, none⟩ = some (.int .i64 0) := HX9.out.cell 1 rfl
        have z2 : w9.cell? ⟨bz, 2, none⟩ = some (.int .i64 0) := HX9.out.cell 2 rfl
        have z3 : w9.cell? ⟨bz, 3, none⟩ = some (.int .i64 0) := HX9.out.cell 3 rfl
        have z4 : w9.cell? ⟨bz, 4, none⟩ = some (.int .i64 0) := HX9.out.cell 4 rfl
        have z5 : w9.cell? ⟨bz, 5, none⟩ = some (.int .i64 0) := HX9.out.cell 5 rfl
        have z6 : w9.cell? ⟨bz, 6, none⟩ = some (.slice ra many rc) := HX9.out.cell 6 rfl
        refine bodyPost_ret (v := .tuple #[.agg #[.int .i64 kd, .int .i64 0, .int .i64 0, .int .i64 0, .int .i64 0, .int .i64 0, .slice ra many rc], .slice la2 ln2 lc2]) (by simp [results, Tryd.results4, go_sem, z0, z1, z2, z3, z4, z5, z6]) rfl ?_
        have hsl : SlF exL 7 w9 ra many rc vs := own_slc HO9.out
        have hbk : ∀ k, blk ra = some k → w.heap.size ≤ k ∧ k < w9.heap.size := fun k hk => by have h := own_lt HO9.out k hk; omega
        have hkd := HKD.out
        obtain ⟨hl1, hl2⟩ := HLN.out
        have hE := HE9.out
        have hS := HEX.out
        rcases hmany with ⟨hj2, rfl⟩ | ⟨hj2, rfl | rfl⟩
        · obtain ⟨vp, rfl⟩ := List.length_eq_one_iff.1 hl2
          obtain ⟨p, rfl⟩ := List.length_eq_one_iff.1 hl1
          have h0 := hE 0 (by omega)
          have s0 := hS 0 (by omega)
          exact ⟨⟨kd, 0, 0, 0, 0, 0, ra, 1, rc⟩, .not p, la2, ln2, lc2, l2, rfl, ⟨ra, rc, vp, by rw [show kd = 5 by omega], hsl, hbk, h0⟩, ⟨s0.2.1, by have := s0.2.2; simp only [Ex.dep]; simp [List.getD] at this; omega⟩, HSU, HB9⟩
        · obtain ⟨vp, vq, rfl⟩ := len_two hl2
          obtain ⟨p, q, rfl⟩ := len_two hl1
          have h0 := hE 0 (by omega)
          have h1 := hE 1 (by omega)
          have s0 := hS 0 (by omega)
          have s1 := hS 1 (by omega)
          obtain ⟨o, ho⟩ : ∃ o : Bool, kd = Ex.ok o := by
            by_cases h : j = 0
            · exact ⟨false, by unfold Ex.ok; simp; omega⟩
            · exact ⟨true, by unfold Ex.ok; simp; omega⟩
          exact ⟨⟨kd, 0, 0, 0, 0, 0, ra, 2, rc⟩, .two o p q, la2, ln2, lc2, l2, rfl, ⟨ra, rc, vp, vq, by rw [ho], hsl, hbk, h0, h1⟩, ⟨⟨s0.2.1, s1.2.1⟩, by have e0 := s0.2.2; have e1 := s1.2.2; simp only [Ex.dep]; simp [List.getD] at e0 e1; omega⟩, HSU, HB9⟩
        · obtain ⟨vp, vq, vr, rfl⟩ := len_three hl2
          obtain ⟨p, q, r, rfl⟩ := len_three hl1
          have h0 := hE 0 (by omega)
          have h1 := hE 1 (by omega)
          have h2 := hE 2 (by omega)
          have s0 := hS 0 (by omega)
          have s1 := hS 1 (by omega)
          have s2 := hS 2 (by omega)
          obtain ⟨o, ho⟩ : ∃ o : Bool, kd = Ex.ok o := by
            by_cases h : j = 0
            · exact ⟨false, by unfold Ex.ok; simp; omega⟩
            · exact ⟨true, by unfold Ex.ok; simp; omega⟩
          exact ⟨⟨kd, 0, 0, 0, 0, 0, ra, 3, rc⟩, .three o p q r, la2, ln2, lc2, l2, rfl, ⟨ra, rc, vp, vq, vr, by rw [ho], hsl, hbk, h0, h1, h2⟩, ⟨⟨s0.2.1, s1.2.1, s2.2.1⟩, by have e0 := s0.2.2; have e1 := s1.2.2; have e2 := s2.2.2; simp only [Ex.dep]; simp [List.getD] at e0 e1 e2; omega⟩, HSU, HB9⟩

theorem exprOf_any : ∀ (deep : Nat), deep ≤ 100 → ExOfC deep
  | 0, h => exprOf_step 0 h (fun h => absurd h (by omega))
  | deep + 1, h => exprOf_step (deep + 1) h (fun _ => exprOf_any deep (by omega))

end Go.Proofs.YtakabjkhcdkkjaaDoor

/- The parser: one. -/
import Derived.Test.YtakabjkhcdkkjaaDoorQryF
import Derived.Test.YtakabjkhcdkkjaaDoorQryD
namespace Go.Proofs.YtakabjkhcdkkjaaDoor
set_option linter.unusedVariables false
open Go.RowKit Qk

def noStop : Wd → Prop := fun _ => False
theorem ListR.sl {B n : Nat} {w : World} {xs : List (List Wd × Ex)} {oa : Option Addr} {oc : Nat} {vs : List ExV} (h : ListR B w n xs oa oc vs) : SlF exL 7 w oa n oc vs ∧ ∀ k, blk oa = some k → B ≤ k ∧ k < w.heap.size := ⟨own_slc h.row, own_lt h.row⟩
theorem IsExB.wk {P Q : Nat → Prop} {w : World} {x : Ex} {v : ExV} (h : IsExB P w x v) (hq : ∀ k, P k → Q k) : IsExB Q w x v := h.keep (fun _ _ _ => rfl) (Nat.le_refl _) (fun k hk _ => hq k hk)
theorem ListR.at {B n : Nat} {w : World} {xs : List (List Wd × Ex)} {oa : Option Addr} {oc : Nat} {vs : List ExV} (h : ListR B w n xs oa oc vs) (i : Nat) (hi : i < xs.length) : IsExB (fun k => B ≤ k) w (xs[i]).2 (vs.getD i ev0) := (h.parts i hi).wk (fun k hk => hk.1)
theorem ListR.isNot {B : Nat} {w : World} {p : List Wd × Ex} {oa : Option Addr} {oc : Nat} {vs : List ExV} (h : ListR B w 1 [p] oa oc vs) : IsExB (fun k => B ≤ k) w (.not p.2) ⟨5, 0, 0, 0, 0, 0, oa, 1, oc⟩ := by
  obtain ⟨a, ha⟩ : ∃ a, vs = [a] := by
    match vs, h.len with
    | [a], _ => exact ⟨a, rfl⟩
  subst ha
  exact ⟨oa, oc, a, rfl, h.sl.1, h.sl.2, h.at 0 (by simp)⟩
theorem ListR.isTwo {B : Nat} {w : World} {p q : List Wd × Ex} {oa : Option Addr} {oc : Nat} {vs : List ExV} (h : ListR B w 2 [p, q] oa oc vs) (o : Bool) : IsExB (fun k => B ≤ k) w (.two o p.2 q.2) ⟨Ex.ok o, 0, 0, 0, 0, 0, oa, 2, oc⟩ := by
  obtain ⟨a, b, ha⟩ := len_two h.len
  subst ha
  exact ⟨oa, oc, a, b, rfl, h.sl.1, h.sl.2, h.at 0 (by simp), h.at 1 (by simp)⟩
theorem ListR.isThree {B : Nat} {w : World} {p q r : List Wd × Ex} {oa : Option Addr} {oc : Nat} {vs : List ExV} (h : ListR B w 3 [p, q, r] oa oc vs) (o : Bool) : IsExB (fun k => B ≤ k) w (.three o p.2 q.2 r.2) ⟨Ex.ok o, 0, 0, 0, 0, 0, oa, 3, oc⟩ := by
  obtain ⟨a, b, c, ha⟩ := len_three h.len
  subst ha
  exact ⟨oa, oc, a, b, c, rfl, h.sl.1, h.sl.2, h.at 0 (by simp), h.at 1 (by simp), h.at 2 (by simp)⟩
/-- Storing the flag as it is. -/
theorem PS.flag {w0 w : World} {pb lc : Nat} {la : Option Addr} {T : List Wd} (h : PS w0 w pb la lc T) : PS w0 (w.setCell ⟨pb, 1, none⟩ (.bool false)) pb la lc T := by
  have hg := grown_set w pb 1 (.bool false)
  refine h.grown hg ?_ (h.row.keep hg (fun k e e2 => by cases e; have := h.lt _ e2; have := h.lo; omega)) h.lt
  have := box_put (i := 1) h.box (.bool false)
  simpa using this

set_option maxRecDepth 100000 in
set_option maxHeartbeats 16000000 in
theorem one_not (w0 : World) (T : List Wd) (x : Ex) (hH : PartC w0 29 T x noStop) : PartC w0 29 ([[33]] ++ T) (.not x) noStop := by
  intro w pb lc la rest hr h
  have hpb : pb < w.heap.size := h.box.lt
  have hw0 := h.bel.size
  have ha := below_alloc (Nat.le_refl w.heap.size) (.cells #[.int .i64 0, .int .i64 0, .int .i64 0, .int .i64 0, .int .i64 0, .int .i64 0, .slice none 0 0] 27)
  have HBX := Kp.mk (Box.new w #[.int .i64 0, .int .i64 0, .int .i64 0, .int .i64 0, .int .i64 0, .int .i64 0, .slice none 0 0] 27)
  obtain ⟨t2, ht2⟩ : ∃ t2, w.heap.size = t2 := ⟨_, rfl⟩
  have HA := Kp.mk ha
  obtain ⟨w1, hw1⟩ : ∃ w1, w.alloc (.cells #[.int .i64 0, .int .i64 0, .int .i64 0, .int .i64 0, .int .i64 0, .int .i64 0, .slice none 0 0] 27) = w1 := ⟨_, rfl⟩
  have hz1 : w1.heap.size = t2 + 1 := by rw [← hw1, alloc_size, ht2]
  have hsl := h.later ha
  rw [hw1] at HA HBX hsl
  rw [ht2] at HBX
  have HS1 := Kp.mk (show PS w0 w1 pb la lc ([33] :: (T ++ rest)) from by simpa using hsl)
  have HZ1 := Kp.mk hz1
  have HT2 := Kp.mk ht2
  have HH := Kp.mk hH
  have k1 : w1.cell? ⟨pb, 1, none⟩ = some (.bool false) := HS1.out.box.cell 1 rfl
  clear hH hr h ha hz1 hsl
  go_enter Tryd.func29, Tryd.ntmps29
  go_upto_region 3 with (fail)
  clear hw1 ht2
  have CT := Kp.mk (takes_yes w0 w1 pb la lc [33] (T ++ rest) HS1.out)
  go_wp2_with ((go_at_call 28; refine CT.out.mono ?_; rintro e wt ⟨la4, lc4, rfl, HS4, HG4⟩; have CP := Kp.mk (HH.out wt pb lc4 la4 rest (fun t _ h => h) HS4.out); have hzt := HG4.out.size))
  refine CP.out.mono ?_
  rintro e w3 ⟨v, la5, lc5, rfl, HV, HS5, HG5⟩
  have hT2 := HT2.out
  have hZ1 := HZ1.out
  have hz3 := HG5.out.size
  have HG15 := Kp.mk (show w.grownBy w3 (some pb) from grown_trans (grown_of_below HA.out) (grown_trans HG4.out HG5.out))
  have HL := Kp.mk (ListR.first (B := t2 + 1) (p := (T, x)) (HV.out.wk (fun k hk => by omega)) (by omega))
  have hal := below_alloc (Nat.le_refl w3.heap.size) (.cells #[.int .i64 v.k, .int .i64 v.a, .int .i64 v.b, .int .i64 v.c, .int .i64 v.d, .int .i64 v.x, .slice v.sa v.n v.cap] 27)
  have HBX3 := Kp.mk (box_grow HBX.out (grown_trans HG4.out HG5.out) (fun e => by simp only [Option.some.injEq] at e; omega))
  have hx0 := HBX3.out.alloc (.cells #[.int .i64 v.k, .int .i64 v.a, .int .i64 v.b, .int .i64 v.c, .int .i64 v.d, .int .i64 v.x, .slice v.sa v.n v.cap] 27)
  have b0 : (w3.alloc (.cells #[.int .i64 v.k, .int .i64 v.a, .int .i64 v.b, .int .i64 v.c, .int .i64 v.d, .int .i64 v.x, .slice v.sa v.n v.cap] 27)).cell? ⟨t2, 0, none⟩ = some (.int .i64 0) := hx0.cell 0 rfl
  have b1 : (w3.alloc (.cells #[.int .i64 v.k, .int .i64 v.a, .int .i64 v.b, .int .i64 v.c, .int .i64 v.d, .int .i64 v.x, .slice v.sa v.n v.cap] 27)).cell? ⟨t2, 1, none⟩ = some (.int .i64 0) := hx0.cell 1 rfl
  have b2 : (w3.alloc (.cells #[.int .i64 v.k, .int .i64 v.a, .int .i64 v.b, .int .i64 v.c, .int .i64 v.d, .int .i64 v.x, .slice v.sa v.n v.cap] 27)).cell? ⟨t2, 2, none⟩ = some (.int .i64 0) := hx0.cell 2 rfl
  have b3 : (w3.alloc (.cells #[.int .i64 v.k, .int .i64 v.a, .int .i64 v.b, .int .i64 v.c, .int .i64 v.d, .int .i64 v.x, .slice v.sa v.n v.cap] 27)).cell? ⟨t2, 3, none⟩ = some (.int .i64 0) := hx0.cell 3 rfl
  have b4 : (w3.alloc (.cells #[.int .i64 v.k, .int .i64 v.a, .int .i64 v.b, .int .i64 v.c, .int .i64 v.d, .int .i64 v.x, .slice v.sa v.n v.cap] 27)).cell? ⟨t2, 4, none⟩ = some (.int .i64 0) := hx0.cell 4 rfl
  have b5 : (w3.alloc (.cells #[.int .i64 v.k, .int .i64 v.a, .int .i64 v.b, .int .i64 v.c, .int .i64 v.d, .int .i64 v.x, .slice v.sa v.n v.cap] 27)).cell? ⟨t2, 5, none⟩ = some (.int .i64 0) := hx0.cell 5 rfl
  have b6 : (w3.alloc (.cells #[.int .i64 v.k, .int .i64 v.a, .int .i64 v.b, .int .i64 v.c, .int .i64 v.d, .int .i64 v.x, .slice v.sa v.n v.cap] 27)).cell? ⟨t2, 6, none⟩ = some (.slice none 0 0) := hx0.cell 6 rfl
  have q0 := hx0.free 0
  have q1 := hx0.free 1
  have q2 := hx0.free 2
  have q3 := hx0.free 3
  have q4 := hx0.free 4
  have q5 := hx0.free 5
  have q6 := hx0.free 6
  have HX9 := Kp.mk (st7_box hx0 (.int .i64 5) (.int .i64 0) (.int .i64 0) (.int .i64 0) (.int .i64 0) (.int .i64 0) (.slice (some ⟨w3.heap.size, 0, none⟩) 1 1))
  have hg9 := st7_grown (w3.alloc (.cells #[.int .i64 v.k, .int .i64 v.a, .int .i64 v.b, .int .i64 v.c, .int .i64 v.d, .int .i64 v.x, .slice v.sa v.n v.cap] 27)) t2 (.int .i64 5) (.int .i64 0) (.int .i64 0) (.int .i64 0) (.int .i64 0) (.int .i64 0) (.slice (some ⟨w3.heap.size, 0, none⟩) 1 1)
  have HS9 := Kp.mk ((HS5.out.later hal).keep hg9 (fun k e => by cases e; exact ⟨by omega, by omega⟩))
  have HG9 := Kp.mk (show w.grownBy _ (some pb) from qgrown_step (grown_trans HG15.out (grown_of_below hal)) hg9 (fun q e => .inl (by cases e; rw [hT2]; exact Nat.le_refl _)))
  have HL9 := Kp.mk ((HL.out.step hg9 (by omega)).weak (B' := t2) (by omega))
  clear hx0 hg9 hal CP CT HL HV HS5 HG5 HS4 HG4 HBX3 HBX k1
  go_wp2
  clear b0 b1 b2 b3 b4 b5 b6 q0 q1 q2 q3 q4 q5 q6
  generalize ((((((((w3.alloc (.cells #[.int .i64 v.k, .int .i64 v.a, .int .i64 v.b, .int .i64 v.c, .int .i64 v.d, .int .i64 v.x, .slice v.sa v.n v.cap] 27)).setCell ⟨t2, 0, none⟩ (.int .i64 5)).setCell ⟨t2, 1, none⟩ (.int .i64 0)).setCell ⟨t2, 2, none⟩ (.int .i64 0)).setCell ⟨t2, 3, none⟩ (.int .i64 0)).setCell ⟨t2, 4, none⟩ (.int .i64 0)).setCell ⟨t2, 5, none⟩ (.int .i64 0)).setCell ⟨t2, 6, none⟩ (.slice (some ⟨w3.heap.size, 0, none⟩) 1 1)) = w9 at *
  have z0 : w9.cell? ⟨t2, 0, none⟩ = some (.int .i64 5) := HX9.out.cell 0 rfl
  have z1 : w9.cell? ⟨t2, 1, none⟩ = some (.int .i64 0) := HX9.out.cell 1 rfl
  have z2 : w9.cell? ⟨t2, 2, none⟩ = some (.int .i64 0) := HX9.out.cell 2 rfl
  have z3 : w9.cell? ⟨t2, 3, none⟩ = some (.int .i64 0) := HX9.out.cell 3 rfl
  have z4 : w9.cell? ⟨t2, 4, none⟩ = some (.int .i64 0) := HX9.out.cell 4 rfl
  have z5 : w9.cell? ⟨t2, 5, none⟩ = some (.int .i64 0) := HX9.out.cell 5 rfl
  have z6 : w9.cell? ⟨t2, 6, none⟩ = some (.slice (some ⟨w3.heap.size, 0, none⟩) 1 1) := HX9.out.cell 6 rfl
  refine bodyPost_ret (v := .agg #[.int .i64 5, .int .i64 0, .int .i64 0, .int .i64 0, .int .i64 0, .int .i64 0, .slice (some ⟨w3.heap.size, 0, none⟩) 1 1]) (by simp [results, Tryd.results29, go_sem, z0, z1, z2, z3, z4, z5, z6]) rfl ?_
  exact ⟨⟨5, 0, 0, 0, 0, 0, some ⟨w3.heap.size, 0, none⟩, 1, 1⟩, la5, lc5, rfl, ⟨by rw [hT2]; exact HL9.out.isNot⟩, HS9, HG9⟩

set_option maxRecDepth 100000 in
set_option maxHeartbeats 16000000 in
theorem one_paren (w0 : World) (stop : Wd → Prop) (hs : ¬ stop [41]) (T : List Wd) (x : Ex) (hH : PartC w0 14 T x stop) : PartC w0 29 ([[40]] ++ T ++ [[41]]) x noStop := by
  intro w pb lc la rest hr h
  have hpb : pb < w.heap.size := h.box.lt
  have hw0 := h.bel.size
  have ha := below_alloc (Nat.le_refl w.heap.size) (.cells #[.int .i64 0, .int .i64 0, .int .i64 0, .int .i64 0, .int .i64 0, .int .i64 0, .slice none 0 0] 27)
  have HBX := Kp.mk (Box.new w #[.int .i64 0, .int .i64 0, .int .i64 0, .int .i64 0, .int .i64 0, .int .i64 0, .slice none 0 0] 27)
  obtain ⟨t2, ht2⟩ : ∃ t2, w.heap.size = t2 := ⟨_, rfl⟩
  have HA := Kp.mk ha
  obtain ⟨w1, hw1⟩ : ∃ w1, w.alloc (.cells #[.int .i64 0, .int .i64 0, .int .i64 0, .int .i64 0, .int .i64 0, .int .i64 0, .slice none 0 0] 27) = w1 := ⟨_, rfl⟩
  have hz1 : w1.heap.size = t2 + 1 := by rw [← hw1, alloc_size, ht2]
  have hsl := h.later ha
  rw [hw1] at HA HBX hsl
  rw [ht2] at HBX
  have HS1 := Kp.mk (show PS w0 w1 pb la lc ([40] :: (T ++ ([41] :: rest))) from by simpa using hsl)
  have HZ1 := Kp.mk hz1
  have HT2 := Kp.mk ht2
  have HH := Kp.mk hH
  have k1 : w1.cell? ⟨pb, 1, none⟩ = some (.bool false) := HS1.out.box.cell 1 rfl
  clear hH hr h ha hz1 hsl
  go_enter Tryd.func29, Tryd.ntmps29
  go_upto_region 3 with (fail)
  clear hw1 ht2
  have CT := Kp.mk (takes_no w0 w1 pb la lc [33] ([40] :: (T ++ ([41] :: rest))) HS1.out (by simp))
  go_wp2_with fail
  refine CT.out.mono ?_
  rintro e w2 ⟨rfl, HS2, HB2⟩
  have CT2 := Kp.mk (takes_yes w0 w2 pb la lc [40] (T ++ ([41] :: rest)) HS2.out)
  clear CT
  go_wp2_with fail
  refine CT2.out.mono ?_
  rintro e w3 ⟨la4, lc4, rfl, HS3, HG3⟩
  have HG13 := Kp.mk (show w1.grownBy w3 (some pb) from grown_trans (grown_of_below HB2.out) HG3.out)
  have CP := Kp.mk (HH.out w3 pb lc4 la4 ([41] :: rest) (fun t ht h => by simp only [List.head?_cons, Option.some.injEq] at ht; rw [← ht] at h; exact hs h) HS3.out)
  clear CT2 HS2 HB2 HG3 HS3 k1
  go_wp2_with fail
  refine CP.out.mono ?_
  rintro e w4 ⟨v, la5, lc5, rfl, HV, HS4, HG4⟩
  have hT2 := HT2.out
  have hZ1 := HZ1.out
  have hz13 := HG13.out.size
  have hz4 := HG4.out.size
  have HG14 := Kp.mk (show w.grownBy w4 (some pb) from grown_trans (grown_of_below HA.out) (grown_trans HG13.out HG4.out))
  have hx0 := box_grow HBX.out (grown_trans HG13.out HG4.out) (fun e => by simp only [Option.some.injEq] at e; omega)
  have b0 : w4.cell? ⟨t2, 0, none⟩ = some (.int .i64 0) := hx0.cell 0 rfl
  have b1 : w4.cell? ⟨t2, 1, none⟩ = some (.int .i64 0) := hx0.cell 1 rfl
  have b2 : w4.cell? ⟨t2, 2, none⟩ = some (.int .i64 0) := hx0.cell 2 rfl
  have b3 : w4.cell? ⟨t2, 3, none⟩ = some (.int .i64 0) := hx0.cell 3 rfl
  have b4 : w4.cell? ⟨t2, 4, none⟩ = some (.int .i64 0) := hx0.cell 4 rfl
  have b5 : w4.cell? ⟨t2, 5, none⟩ = some (.int .i64 0) := hx0.cell 5 rfl
  have b6 : w4.cell? ⟨t2, 6, none⟩ = some (.slice none 0 0) := hx0.cell 6 rfl
  have q0 := hx0.free 0
  have q1 := hx0.free 1
  have q2 := hx0.free 2
  have q3 := hx0.free 3
  have q4 := hx0.free 4
  have q5 := hx0.free 5
  have q6 := hx0.free 6
  have HX5 := Kp.mk (st7_box hx0 (.int .i64 v.k) (.int .i64 v.a) (.int .i64 v.b) (.int .i64 v.c) (.int .i64 v.d) (.int .i64 v.x) (.slice v.sa v.n v.cap))
  have hg9 := st7_grown w4 t2 (.int .i64 v.k) (.int .i64 v.a) (.int .i64 v.b) (.int .i64 v.c) (.int .i64 v.d) (.int .i64 v.x) (.slice v.sa v.n v.cap)
  have HS5 := Kp.mk (HS4.out.keep hg9 (fun k e => by cases e; exact ⟨by omega, by omega⟩))
  have HG5 := Kp.mk (show w.grownBy _ (some pb) from qgrown_step HG14.out hg9 (fun q e => .inl (by cases e; rw [hT2]; exact Nat.le_refl _)))
  have HV5 := Kp.mk (show IsExB (fun k => t2 + 1 ≤ k) _ x v from HV.out.keep (Q := fun k => t2 + 1 ≤ k) (fun k hk hl => hg9.block k hl (fun e => by cases e; omega)) hg9.size (fun k hk _ => by omega))
  clear hx0 hg9 CP HV HS4 HG4 HG13 HG14
  go_upto_region 7 with (fail)
  clear b0 b1 b2 b3 b4 b5 b6 q0 q1 q2 q3 q4 q5 q6
  generalize (((((((w4.setCell ⟨t2, 0, none⟩ (.int .i64 v.k)).setCell ⟨t2, 1, none⟩ (.int .i64 v.a)).setCell ⟨t2, 2, none⟩ (.int .i64 v.b)).setCell ⟨t2, 3, none⟩ (.int .i64 v.c)).setCell ⟨t2, 4, none⟩ (.int .i64 v.d)).setCell ⟨t2, 5, none⟩ (.int .i64 v.x)).setCell ⟨t2, 6, none⟩ (.slice v.sa v.n v.cap)) = w5 at *
  have k1 : w5.cell? ⟨pb, 1, none⟩ = some (.bool false) := HS5.out.box.cell 1 rfl
  have CT := Kp.mk (takes_yes w0 w5 pb la5 lc5 [41] rest HS5.out)
  go_wp2_with fail
  refine CT.out.mono ?_
  rintro e w6 ⟨la6, lc6, rfl, HS6, HG6⟩
  have f1 := HS6.out.box.free 1
  have c1 := HS6.out.box.cell 1 rfl
  go_upto_region 17 with (fail)
  have HS7 := Kp.mk HS6.out.flag
  have HG7 := Kp.mk (show w5.grownBy (w6.setCell ⟨pb, 1, none⟩ (.bool false)) (some pb) from grown_trans HG6.out (grown_set w6 pb 1 _))
  clear k1 f1 c1 CT HS6 HG6
  generalize w6.setCell ⟨pb, 1, none⟩ (.bool false) = w7 at *
  have hx0 := box_grow HX5.out HG7.out (fun e => by simp only [Option.some.injEq] at e; omega)
  have b0 : w7.cell? ⟨t2, 0, none⟩ = some (.int .i64 v.k) := hx0.cell 0 rfl
  have b1 : w7.cell? ⟨t2, 1, none⟩ = some (.int .i64 v.a) := hx0.cell 1 rfl
  have b2 : w7.cell? ⟨t2, 2, none⟩ = some (.int .i64 v.b) := hx0.cell 2 rfl
  have b3 : w7.cell? ⟨t2, 3, none⟩ = some (.int .i64 v.c) := hx0.cell 3 rfl
  have b4 : w7.cell? ⟨t2, 4, none⟩ = some (.int .i64 v.d) := hx0.cell 4 rfl
  have b5 : w7.cell? ⟨t2, 5, none⟩ = some (.int .i64 v.x) := hx0.cell 5 rfl
  have b6 : w7.cell? ⟨t2, 6, none⟩ = some (.slice v.sa v.n v.cap) := hx0.cell 6 rfl
  have q0 := hx0.free 0
  have q1 := hx0.free 1
  have q2 := hx0.free 2
  have q3 := hx0.free 3
  have q4 := hx0.free 4
  have q5 := hx0.free 5
  have q6 := hx0.free 6
  have HX9 := Kp.mk (st7_box hx0 (.int .i64 v.k) (.int .i64 v.a) (.int .i64 v.b) (.int .i64 v.c) (.int .i64 v.d) (.int .i64 v.x) (.slice v.sa v.n v.cap))
  have hg9 := st7_grown w7 t2 (.int .i64 v.k) (.int .i64 v.a) (.int .i64 v.b) (.int .i64 v.c) (.int .i64 v.d) (.int .i64 v.x) (.slice v.sa v.n v.cap)
  have HS9 := Kp.mk (HS7.out.keep hg9 (fun k e => by cases e; exact ⟨by omega, by omega⟩))
  have HG9 := Kp.mk (show w.grownBy _ (some pb) from qgrown_step (grown_trans HG5.out HG7.out) hg9 (fun q e => .inl (by cases e; rw [hT2]; exact Nat.le_refl _)))
  have HV7 := Kp.mk (show IsExB (fun k => t2 + 1 ≤ k) w7 x v from HV5.out.keep (Q := fun k => t2 + 1 ≤ k) (fun k hk hl => HG7.out.block k hl (fun e => by cases e; omega)) HG7.out.size (fun k hk _ => hk))
  have HV9 := Kp.mk (show IsExB (fun k => t2 ≤ k) _ x v from HV7.out.keep (Q := fun k => t2 ≤ k) (fun k hk hl => hg9.block k hl (fun e => by cases e; omega)) hg9.size (fun k hk _ => by omega))
  clear hx0 hg9 HX5 HS5 HG5 HS7 HG7 HV5 HV7
  go_wp2
  clear b0 b1 b2 b3 b4 b5 b6 q0 q1 q2 q3 q4 q5 q6
  generalize (((((((w7.setCell ⟨t2, 0, none⟩ (.int .i64 v.k)).setCell ⟨t2, 1, none⟩ (.int .i64 v.a)).setCell ⟨t2, 2, none⟩ (.int .i64 v.b)).setCell ⟨t2, 3, none⟩ (.int .i64 v.c)).setCell ⟨t2, 4, none⟩ (.int .i64 v.d)).setCell ⟨t2, 5, none⟩ (.int .i64 v.x)).setCell ⟨t2, 6, none⟩ (.slice v.sa v.n v.cap)) = w9 at *
  have z0 : w9.cell? ⟨t2, 0, none⟩ = some (.int .i64 v.k) := HX9.out.cell 0 rfl
  have z1 : w9.cell? ⟨t2, 1, none⟩ = some (.int .i64 v.a) := HX9.out.cell 1 rfl
  have z2 : w9.cell? ⟨t2, 2, none⟩ = some (.int .i64 v.b) := HX9.out.cell 2 rfl
  have z3 : w9.cell? ⟨t2, 3, none⟩ = some (.int .i64 v.c) := HX9.out.cell 3 rfl
  have z4 : w9.cell? ⟨t2, 4, none⟩ = some (.int .i64 v.d) := HX9.out.cell 4 rfl
  have z5 : w9.cell? ⟨t2, 5, none⟩ = some (.int .i64 v.x) := HX9.out.cell 5 rfl
  have z6 : w9.cell? ⟨t2, 6, none⟩ = some (.slice v.sa v.n v.cap) := HX9.out.cell 6 rfl
  refine bodyPost_ret (v := .agg #[.int .i64 v.k, .int .i64 v.a, .int .i64 v.b, .int .i64 v.c, .int .i64 v.d, .int .i64 v.x, .slice v.sa v.n v.cap]) (by simp [results, Tryd.results29, go_sem, z0, z1, z2, z3, z4, z5, z6]) rfl ?_
  exact ⟨v, la6, lc6, rfl, ⟨by rw [hT2]; exact HV9.out⟩, HS9, HG9⟩

set_option maxRecDepth 100000 in
set_option maxHeartbeats 16000000 in
theorem one_w (w0 : World) (x : Int) (h1 : -10 < x) (h2 : x < 100) (stop : Wd → Prop) : PartC w0 29 [[119], Lib.itoa x] (.hv x) stop := by
  have hH : True := trivial
  intro w pb lc la rest hr h
  have hpb : pb < w.heap.size := h.box.lt
  have hw0 := h.bel.size
  have ha := below_alloc (Nat.le_refl w.heap.size) (.cells #[.int .i64 0, .int .i64 0, .int .i64 0, .int .i64 0, .int .i64 0, .int .i64 0, .slice none 0 0] 27)
  have HBX := Kp.mk (Box.new w #[.int .i64 0, .int .i64 0, .int .i64 0, .int .i64 0, .int .i64 0, .int .i64 0, .slice none 0 0] 27)
  obtain ⟨t2, ht2⟩ : ∃ t2, w.heap.size = t2 := ⟨_, rfl⟩
  have HA := Kp.mk ha
  obtain ⟨w1, hw1⟩ : ∃ w1, w.alloc (.cells #[.int .i64 0, .int .i64 0, .int .i64 0, .int .i64 0, .int .i64 0, .int .i64 0, .slice none 0 0] 27) = w1 := ⟨_, rfl⟩
  have hz1 : w1.heap.size = t2 + 1 := by rw [← hw1, alloc_size, ht2]
  have hsl := h.later ha
  rw [hw1] at HA HBX hsl
  rw [ht2] at HBX
  have HS1 := Kp.mk (show PS w0 w1 pb la lc ([119] :: (Lib.itoa x :: rest)) from by simpa using hsl)
  have HZ1 := Kp.mk hz1
  have HT2 := Kp.mk ht2
  have HH := Kp.mk hH
  have k1 : w1.cell? ⟨pb, 1, none⟩ = some (.bool false) := HS1.out.box.cell 1 rfl
  clear hH hr h ha hz1 hsl
  go_enter Tryd.func29, Tryd.ntmps29
  go_upto_region 3 with (fail)
  clear hw1 ht2
  have CT0 := Kp.mk (takes_no w0 w1 pb la lc [33] ([119] :: (Lib.itoa x :: rest)) HS1.out (by simp))
  go_wp2_with fail
  refine CT0.out.mono ?_
  rintro e w2 ⟨rfl, HS2, HB2⟩
  clear CT0
  have CT1 := Kp.mk (takes_no w0 w2 pb la lc [40] ([119] :: (Lib.itoa x :: rest)) HS2.out (by simp))
  go_wp2_with fail
  refine CT1.out.mono ?_
  rintro e w3 ⟨rfl, HS3, HB3⟩
  clear CT1
  have CT2 := Kp.mk (takes_no w0 w3 pb la lc [105, 110] ([119] :: (Lib.itoa x :: rest)) HS3.out (by simp))
  go_wp2_with fail
  refine CT2.out.mono ?_
  rintro e w4 ⟨rfl, HS4, HB4⟩
  clear CT2
  have HG14 := Kp.mk (show w1.grownBy w4 (some pb) from grown_trans (grown_trans (grown_of_below HB2.out) (grown_of_below HB3.out)) (grown_of_below HB4.out))
  have CT := Kp.mk (takes_yes w0 w4 pb la lc [119] (Lib.itoa x :: rest) HS4.out)
  clear HS1 HS2 HS3 HS4 HB2 HB3 HB4 k1
  go_wp2_with fail
  refine CT.out.mono ?_
  rintro e w5 ⟨la5, lc5, rfl, HS5, HG5⟩
  have CN := Kp.mk (number_any w0 w5 pb la5 lc5 x rest h1 h2 HS5.out)
  clear CT
  go_wp2_with fail
  refine CN.out.mono ?_
  rintro e w6 ⟨la6, lc6, rfl, HS6, HG6⟩
  have hT2 := HT2.out
  have hZ1 := HZ1.out
  have HG16 := Kp.mk (show w1.grownBy w6 (some pb) from grown_trans (grown_trans HG14.out HG5.out) HG6.out)
  have hz16 := HG16.out.size
  have HBX6 := Kp.mk (box_grow HBX.out HG16.out (fun e => by simp only [Option.some.injEq] at e; omega))
  have hx6 := HBX6.out
  have b0 : w6.cell? ⟨t2, 0, none⟩ = some (.int .i64 0) := hx6.cell 0 rfl
  have b1 : w6.cell? ⟨t2, 1, none⟩ = some (.int .i64 0) := hx6.cell 1 rfl
  have b2 : w6.cell? ⟨t2, 2, none⟩ = some (.int .i64 0) := hx6.cell 2 rfl
  have b3 : w6.cell? ⟨t2, 3, none⟩ = some (.int .i64 0) := hx6.cell 3 rfl
  have b4 : w6.cell? ⟨t2, 4, none⟩ = some (.int .i64 0) := hx6.cell 4 rfl
  have b5 : w6.cell? ⟨t2, 5, none⟩ = some (.int .i64 0) := hx6.cell 5 rfl
  have b6 : w6.cell? ⟨t2, 6, none⟩ = some (.slice none 0 0) := hx6.cell 6 rfl
  have q0 := hx6.free 0
  have q1 := hx6.free 1
  have q2 := hx6.free 2
  have q3 := hx6.free 3
  have q4 := hx6.free 4
  have q5 := hx6.free 5
  have q6 := hx6.free 6
  have HX7 := Kp.mk (show Box ((w6.setCell ⟨t2, 0, none⟩ (.int .i64 2)).setCell ⟨t2, 5, none⟩ (.int .i64 x)) t2 #[.int .i64 2, .int .i64 0, .int .i64 0, .int .i64 0, .int .i64 0, .int .i64 x, .slice none 0 0] 27 from by
    have := box_put (i := 5) (box_put (i := 0) hx6 (.int .i64 2)) (.int .i64 x)
    simpa using this)
  have hg7 := grown_trans (grown_set w6 t2 0 (.int .i64 2)) (grown_set (w6.setCell ⟨t2, 0, none⟩ (.int .i64 2)) t2 5 (.int .i64 x))
  have HS7 := Kp.mk (HS6.out.keep hg7 (fun k e => by cases e; exact ⟨by omega, by omega⟩))
  have HG7 := Kp.mk (show w.grownBy _ (some pb) from qgrown_step (grown_trans (grown_of_below HA.out) HG16.out) hg7 (fun q e => .inl (by cases e; rw [hT2]; exact Nat.le_refl _)))
  clear hx6 hg7 CN HBX6 HBX HS5 HG5 HS6 HG6 HG14 HG16
  go_upto_region 17 with (fail)
  clear b0 b1 b2 b3 b4 b5 b6 q0 q1 q2 q3 q4 q5 q6
  generalize (w6.setCell ⟨t2, 0, none⟩ (.int .i64 2)).setCell ⟨t2, 5, none⟩ (.int .i64 x) = w7 at *
  have hx0 := HX7.out
  have b0 : w7.cell? ⟨t2, 0, none⟩ = some (.int .i64 2) := hx0.cell 0 rfl
  have b1 : w7.cell? ⟨t2, 1, none⟩ = some (.int .i64 0) := hx0.cell 1 rfl
  have b2 : w7.cell? ⟨t2, 2, none⟩ = some (.int .i64 0) := hx0.cell 2 rfl
  have b3 : w7.cell? ⟨t2, 3, none⟩ = some (.int .i64 0) := hx0.cell 3 rfl
  have b4 : w7.cell? ⟨t2, 4, none⟩ = some (.int .i64 0) := hx0.cell 4 rfl
  have b5 : w7.cell? ⟨t2, 5, none⟩ = some (.int .i64 x) := hx0.cell 5 rfl
  have b6 : w7.cell? ⟨t2, 6, none⟩ = some (.slice none 0 0) := hx0.cell 6 rfl
  have q0 := hx0.free 0
  have q1 := hx0.free 1
  have q2 := hx0.free 2
  have q3 := hx0.free 3
  have q4 := hx0.free 4
  have q5 := hx0.free 5
  have q6 := hx0.free 6
  have HX9 := Kp.mk (st7_box hx0 (.int .i64 2) (.int .i64 0) (.int .i64 0) (.int .i64 0) (.int .i64 0) (.int .i64 x) (.slice none 0 0))
  have hg9 := st7_grown w7 t2 (.int .i64 2) (.int .i64 0) (.int .i64 0) (.int .i64 0) (.int .i64 0) (.int .i64 x) (.slice none 0 0)
  have HS9 := Kp.mk (HS7.out.keep hg9 (fun k e => by cases e; exact ⟨by omega, by omega⟩))
  have HG9 := Kp.mk (show w.grownBy _ (some pb) from qgrown_step HG7.out hg9 (fun q e => .inl (by cases e; rw [hT2]; exact Nat.le_refl _)))
  clear hx0 hg9 HX7 HS7 HG7
  go_wp2
  clear b0 b1 b2 b3 b4 b5 b6 q0 q1 q2 q3 q4 q5 q6
  generalize (((((((w7.setCell ⟨t2, 0, none⟩ (.int .i64 2)).setCell ⟨t2, 1, none⟩ (.int .i64 0)).setCell ⟨t2, 2, none⟩ (.int .i64 0)).setCell ⟨t2, 3, none⟩ (.int .i64 0)).setCell ⟨t2, 4, none⟩ (.int .i64 0)).setCell ⟨t2, 5, none⟩ (.int .i64 x)).setCell ⟨t2, 6, none⟩ (.slice none 0 0)) = w9 at *
  have z0 : w9.cell? ⟨t2, 0, none⟩ = some (.int .i64 2) := HX9.out.cell 0 rfl
  have z1 : w9.cell? ⟨t2, 1, none⟩ = some (.int .i64 0) := HX9.out.cell 1 rfl
  have z2 : w9.cell? ⟨t2, 2, none⟩ = some (.int .i64 0) := HX9.out.cell 2 rfl
  have z3 : w9.cell? ⟨t2, 3, none⟩ = some (.int .i64 0) := HX9.out.cell 3 rfl
  have z4 : w9.cell? ⟨t2, 4, none⟩ = some (.int .i64 0) := HX9.out.cell 4 rfl
  have z5 : w9.cell? ⟨t2, 5, none⟩ = some (.int .i64 x) := HX9.out.cell 5 rfl
  have z6 : w9.cell? ⟨t2, 6, none⟩ = some (.slice none 0 0) := HX9.out.cell 6 rfl
  refine bodyPost_ret (v := .agg #[.int .i64 2, .int .i64 0, .int .i64 0, .int .i64 0, .int .i64 0, .int .i64 x, .slice none 0 0]) (by simp [results, Tryd.results29, go_sem, z0, z1, z2, z3, z4, z5, z6]) rfl ?_
  exact ⟨⟨2, 0, 0, 0, 0, x, none, 0, 0⟩, la6, lc6, rfl, ⟨rfl⟩, HS9, HG9⟩

/-- After so many numbers. -/
structure InS (w0 w : World) (pb t2 pq : Nat) (a b c d : Int) (rest : List Wd) (k : Nat) (wr : World) (la : Option Addr) (lc : Nat) : Prop where
  ptr : Box wr pq #[.pointer (some ⟨t2, 1, none⟩), .pointer (some ⟨t2, 2, none⟩), .pointer (some ⟨t2, 3, none⟩), .pointer (some ⟨t2, 4, none⟩)] 67
  gr : w.grownBy wr (some pb)
  at0 : k = 0 → Box wr t2 #[.int .i64 1, .int .i64 0, .int .i64 0, .int .i64 0, .int .i64 0, .int .i64 0, .slice none 0 0] 27 ∧ PS w0 wr pb la lc (Lib.itoa a :: Lib.itoa b :: Lib.itoa c :: Lib.itoa d :: rest)
  at1 : k = 1 → Box wr t2 #[.int .i64 1, .int .i64 a, .int .i64 0, .int .i64 0, .int .i64 0, .int .i64 0, .slice none 0 0] 27 ∧ PS w0 wr pb la lc (Lib.itoa b :: Lib.itoa c :: Lib.itoa d :: rest)
  at2 : k = 2 → Box wr t2 #[.int .i64 1, .int .i64 a, .int .i64 b, .int .i64 0, .int .i64 0, .int .i64 0, .slice none 0 0] 27 ∧ PS w0 wr pb la lc (Lib.itoa c :: Lib.itoa d :: rest)
  at3 : k = 3 → Box wr t2 #[.int .i64 1, .int .i64 a, .int .i64 b, .int .i64 c, .int .i64 0, .int .i64 0, .slice none 0 0] 27 ∧ PS w0 wr pb la lc (Lib.itoa d :: rest)
  at4 : k = 4 → Box wr t2 #[.int .i64 1, .int .i64 a, .int .i64 b, .int .i64 c, .int .i64 d, .int .i64 0, .slice none 0 0] 27 ∧ PS w0 wr pb la lc (rest)

set_option maxRecDepth 100000 in
set_option maxHeartbeats 16000000 in
theorem one_in (w0 : World) (a b c d : Int) (a1 : -10 < a) (a2 : a < 100) (b1 : -10 < b) (b2 : b < 100) (c1 : -10 < c) (c2 : c < 100) (d1 : -10 < d) (d2 : d < 100) (stop : Wd → Prop) : PartC w0 29 [[105, 110], Lib.itoa a, Lib.itoa b, Lib.itoa c, Lib.itoa d] (.inn a b c d) stop := by
  have hH : True := trivial
  intro w pb lc la rest hr h
  have hpb : pb < w.heap.size := h.box.lt
  have hw0 := h.bel.size
  have ha := below_alloc (Nat.le_refl w.heap.size) (.cells #[.int .i64 0, .int .i64 0, .int .i64 0, .int .i64 0, .int .i64 0, .int .i64 0, .slice none 0 0] 27)
  have HBX := Kp.mk (Box.new w #[.int .i64 0, .int .i64 0, .int .i64 0, .int .i64 0, .int .i64 0, .int .i64 0, .slice none 0 0] 27)
  obtain ⟨t2, ht2⟩ : ∃ t2, w.heap.size = t2 := ⟨_, rfl⟩
  have HA := Kp.mk ha
  obtain ⟨w1, hw1⟩ : ∃ w1, w.alloc (.cells #[.int .i64 0, .int .i64 0, .int .i64 0, .int .i64 0, .int .i64 0, .int .i64 0, .slice none 0 0] 27) = w1 := ⟨_, rfl⟩
  have hz1 : w1.heap.size = t2 + 1 := by rw [← hw1, alloc_size, ht2]
  have hsl := h.later ha
  rw [hw1] at HA HBX hsl
  rw [ht2] at HBX
  have HS1 := Kp.mk (show PS w0 w1 pb la lc ([105, 110] :: (Lib.itoa a :: Lib.itoa b :: Lib.itoa c :: Lib.itoa d :: rest)) from by simpa using hsl)
  have HZ1 := Kp.mk hz1
  have HT2 := Kp.mk ht2
  have HH := Kp.mk hH
  have k1 : w1.cell? ⟨pb, 1, none⟩ = some (.bool false) := HS1.out.box.cell 1 rfl
  clear hH hr h ha hz1 hsl
  go_enter Tryd.func29, Tryd.ntmps29
  go_upto_region 3 with (fail)
  clear hw1 ht2
  have CT0 := Kp.mk (takes_no w0 w1 pb la lc [33] ([105, 110] :: (Lib.itoa a :: Lib.itoa b :: Lib.itoa c :: Lib.itoa d :: rest)) HS1.out (by simp))
  go_wp2_with fail
  refine CT0.out.mono ?_
  rintro e w2 ⟨rfl, HS2, HB2⟩
  clear CT0
  have CT1 := Kp.mk (takes_no w0 w2 pb la lc [40] ([105, 110] :: (Lib.itoa a :: Lib.itoa b :: Lib.itoa c :: Lib.itoa d :: rest)) HS2.out (by simp))
  go_wp2_with fail
  refine CT1.out.mono ?_
  rintro e w3 ⟨rfl, HS3, HB3⟩
  clear CT1
  have HG14 := Kp.mk (show w1.grownBy w3 (some pb) from grown_trans (grown_of_below HB2.out) (grown_of_below HB3.out))
  have CT := Kp.mk (takes_yes w0 w3 pb la lc [105, 110] (Lib.itoa a :: Lib.itoa b :: Lib.itoa c :: Lib.itoa d :: rest) HS3.out)
  clear HS1 HS2 HS3 HB2 HB3 k1
  go_wp2_with fail
  refine CT.out.mono ?_
  rintro e w5 ⟨la5, lc5, rfl, HS5, HG5⟩
  have hT2 := HT2.out
  have hZ1 := HZ1.out
  have HG15 := Kp.mk (show w1.grownBy w5 (some pb) from grown_trans HG14.out HG5.out)
  have hz15 := HG15.out.size
  have hx5 := box_grow HBX.out HG15.out (fun e => by simp only [Option.some.injEq] at e; omega)
  have b0 : w5.cell? ⟨t2, 0, none⟩ = some (.int .i64 0) := hx5.cell 0 rfl
  have q0 := hx5.free 0
  have hx6 : Box (w5.setCell ⟨t2, 0, none⟩ (.int .i64 1)) t2 #[.int .i64 1, .int .i64 0, .int .i64 0, .int .i64 0, .int .i64 0, .int .i64 0, .slice none 0 0] 27 := by
    have := box_put (i := 0) hx5 (.int .i64 1)
    simpa using this
  have hg6 := grown_set w5 t2 0 (.int .i64 1)
  have hal := below_alloc (Nat.le_refl (w5.setCell ⟨t2, 0, none⟩ (.int .i64 1)).heap.size) (.cells #[.pointer (some ⟨t2, 1, none⟩), .pointer (some ⟨t2, 2, none⟩), .pointer (some ⟨t2, 3, none⟩), .pointer (some ⟨t2, 4, none⟩)] 67)
  have HIN := Kp.mk (show InS w0 w pb t2 (w5.setCell ⟨t2, 0, none⟩ (.int .i64 1)).heap.size a b c d rest 0 ((w5.setCell ⟨t2, 0, none⟩ (.int .i64 1)).alloc (.cells #[.pointer (some ⟨t2, 1, none⟩), .pointer (some ⟨t2, 2, none⟩), .pointer (some ⟨t2, 3, none⟩), .pointer (some ⟨t2, 4, none⟩)] 67)) la5 lc5 from
    ⟨Box.new _ _ _, grown_trans (qgrown_step (grown_trans (grown_of_below HA.out) HG15.out) hg6 (fun q e => .inl (by cases e; rw [hT2]; exact Nat.le_refl _))) (grown_of_below hal),
     fun _ => ⟨hx6.alloc _, (HS5.out.keep hg6 (fun k e => by cases e; exact ⟨by omega, by omega⟩)).later hal⟩, fun e => by omega, fun e => by omega, fun e => by omega, fun e => by omega⟩)
  have hpq : (w5.setCell ⟨t2, 0, none⟩ (.int .i64 1)).heap.size = w5.heap.size := by simp
  clear CT hx5 hx6 hal HS5 HG5 HG14 HG15 HBX
  have hsz := hg6.size
  clear hg6
  go_wp2
  clear b0 q0
  obtain ⟨pq, hq⟩ : ∃ pq, (w5.setCell ⟨t2, 0, none⟩ (.int .i64 1)).heap.size = pq := ⟨_, rfl⟩
  generalize (w5.setCell ⟨t2, 0, none⟩ (.int .i64 1)).alloc (.cells #[.pointer (some ⟨t2, 1, none⟩), .pointer (some ⟨t2, 2, none⟩), .pointer (some ⟨t2, 3, none⟩), .pointer (some ⟨t2, 4, none⟩)] 67) = w6 at *
  have hq2 : t2 < pq := by omega
  rw [hq] at HIN
  try simp only [hpq] at hq
  try simp only [hq]
  clear hq hpq hsz
  go_loopw [51] (fun i wr => ∃ (k : Nat) (la : Option Addr) (lc : Nat), k ≤ 4 ∧ i = .int .i64 k ∧ Kp (InS w0 w pb t2 pq a b c d rest k wr la lc)) (fun i _ => 4 - (intOf i).toNat)
  case atStart => exact ⟨0, la5, lc5, by omega, rfl, HIN⟩
  case round =>
    obtain ⟨k, la7, lc7, hk, rfl, HI⟩ := hrel
    have hk5 : k = 0 ∨ k = 1 ∨ k = 2 ∨ k = 3 ∨ k = 4 := by omega
    rcases hk5 with rfl | rfl | rfl | rfl | rfl
    · obtain ⟨hx, hs⟩ := HI.out.at0 rfl
      have HS7 := Kp.mk hs
      have HX7 := Kp.mk hx
      have pp : wr.cell? ⟨pq, 0, none⟩ = some (.pointer (some ⟨t2, 1, none⟩)) := HI.out.ptr.cell 0 rfl
      have CN := Kp.mk (number_any w0 wr pb la7 lc7 a (Lib.itoa b :: Lib.itoa c :: Lib.itoa d :: rest) a1 a2 HS7.out)
      clear hx hs
      go_upto_region 13 with (fail)
      clear pp
      go_wp2_with fail
      refine CN.out.mono ?_
      rintro e w8 ⟨la8, lc8, rfl, HS8, HG8⟩
      have hx8 := box_grow HX7.out HG8.out (fun e => by simp only [Option.some.injEq] at e; omega)
      have b1' : w8.cell? ⟨t2, 1, none⟩ = some (.int .i64 0) := hx8.cell 1 rfl
      have q1 := hx8.free 1
      have hg9 := grown_set w8 t2 1 (.int .i64 a)
      have HI9 := Kp.mk (show InS w0 w pb t2 pq a b c d rest 1 (w8.setCell ⟨t2, 1, none⟩ (.int .i64 a)) la8 lc8 from
        ⟨box_grow (box_grow HI.out.ptr HG8.out (fun e => by simp only [Option.some.injEq] at e; omega)) hg9 (fun e => by simp only [Option.some.injEq] at e; omega), qgrown_step (grown_trans HI.out.gr HG8.out) hg9 (fun q e => .inl (by cases e; rw [hT2]; exact Nat.le_refl _)), fun e => by omega, fun _ => ⟨by have := box_put (i := 1) hx8 (.int .i64 a); simpa using this, HS8.out.keep hg9 (fun k e => by cases e; exact ⟨by omega, by omega⟩)⟩, fun e => by omega, fun e => by omega, fun e => by omega⟩)
      clear hx8 hg9 CN HS7 HX7 HI HS8 HG8
      go_wp2
      clear b1' q1
      go_roundw
      case rel => exact ⟨1, la8, lc8, by omega, by go_num, HI9⟩
      case measure => simp [intOf]
    · obtain ⟨hx, hs⟩ := HI.out.at1 rfl
      have HS7 := Kp.mk hs
      have HX7 := Kp.mk hx
      have pp : wr.cell? ⟨pq, 1, none⟩ = some (.pointer (some ⟨t2, 2, none⟩)) := HI.out.ptr.cell 1 rfl
      have CN := Kp.mk (number_any w0 wr pb la7 lc7 b (Lib.itoa c :: Lib.itoa d :: rest) b1 b2 HS7.out)
      clear hx hs
      go_upto_region 13 with (fail)
      clear pp
      go_wp2_with fail
      refine CN.out.mono ?_
      rintro e w8 ⟨la8, lc8, rfl, HS8, HG8⟩
      have hx8 := box_grow HX7.out HG8.out (fun e => by simp only [Option.some.injEq] at e; omega)
      have b1' : w8.cell? ⟨t2, 2, none⟩ = some (.int .i64 0) := hx8.cell 2 rfl
      have q1 := hx8.free 2
      have hg9 := grown_set w8 t2 2 (.int .i64 b)
      have HI9 := Kp.mk (show InS w0 w pb t2 pq a b c d rest 2 (w8.setCell ⟨t2, 2, none⟩ (.int .i64 b)) la8 lc8 from
        ⟨box_grow (box_grow HI.out.ptr HG8.out (fun e => by simp only [Option.some.injEq] at e; omega)) hg9 (fun e => by simp only [Option.some.injEq] at e; omega), qgrown_step (grown_trans HI.out.gr HG8.out) hg9 (fun q e => .inl (by cases e; rw [hT2]; exact Nat.le_refl _)), fun e => by omega, fun e => by omega, fun _ => ⟨by have := box_put (i := 2) hx8 (.int .i64 b); simpa using this, HS8.out.keep hg9 (fun k e => by cases e; exact ⟨by omega, by omega⟩)⟩, fun e => by omega, fun e => by omega⟩)
      clear hx8 hg9 CN HS7 HX7 HI HS8 HG8
      go_wp2
      clear b1' q1
      go_roundw
      case rel => exact ⟨2, la8, lc8, by omega, by go_num, HI9⟩
      case measure => simp [intOf]
    · obtain ⟨hx, hs⟩ := HI.out.at2 rfl
      have HS7 := Kp.mk hs
      have HX7 := Kp.mk hx
      have pp : wr.cell? ⟨pq, 2, none⟩ = some (.pointer (some ⟨t2, 3, none⟩)) := HI.out.ptr.cell 2 rfl
      have CN := Kp.mk (number_any w0 wr pb la7 lc7 c (Lib.itoa d :: rest) c1 c2 HS7.out)
      clear hx hs
      go_upto_region 13 with (fail)
      clear pp
      go_wp2_with fail
      refine CN.out.mono ?_
      rintro e w8 ⟨la8, lc8, rfl, HS8, HG8⟩
      have hx8 := box_grow HX7.out HG8.out (fun e => by simp only [Option.some.injEq] at e; omega)
      have b1' : w8.cell? ⟨t2, 3, none⟩ = some (.int .i64 0) := hx8.cell 3 rfl
      have q1 := hx8.free 3
      have hg9 := grown_set w8 t2 3 (.int .i64 c)
      have HI9 := Kp.mk (show InS w0 w pb t2 pq a b c d rest 3 (w8.setCell ⟨t2, 3, none⟩ (.int .i64 c)) la8 lc8 from
        ⟨box_grow (box_grow HI.out.ptr HG8.out (fun e => by simp only [Option.some.injEq] at e; omega)) hg9 (fun e => by simp only [Option.some.injEq] at e; omega), qgrown_step (grown_trans HI.out.gr HG8.out) hg9 (fun q e => .inl (by cases e; rw [hT2]; exact Nat.le_refl _)), fun e => by omega, fun e => by omega, fun e => by omega, fun _ => ⟨by have := box_put (i := 3) hx8 (.int .i64 c); simpa using this, HS8.out.keep hg9 (fun k e => by cases e; exact ⟨by omega, by omega⟩)⟩, fun e => by omega⟩)
      clear hx8 hg9 CN HS7 HX7 HI HS8 HG8
      go_wp2
      clear b1' q1
      go_roundw
      case rel => exact ⟨3, la8, lc8, by omega, by go_num, HI9⟩
      case measure => simp [intOf]
    · obtain ⟨hx, hs⟩ := HI.out.at3 rfl
      have HS7 := Kp.mk hs
      have HX7 := Kp.mk hx
      have pp : wr.cell? ⟨pq, 3, none⟩ = some (.pointer (some ⟨t2, 4, none⟩)) := HI.out.ptr.cell 3 rfl
      have CN := Kp.mk (number_any w0 wr pb la7 lc7 d (rest) d1 d2 HS7.out)
      clear hx hs
      go_upto_region 13 with (fail)
      clear pp
      go_wp2_with fail
      refine CN.out.mono ?_
      rintro e w8 ⟨la8, lc8, rfl, HS8, HG8⟩
      have hx8 := box_grow HX7.out HG8.out (fun e => by simp only [Option.some.injEq] at e; omega)
      have b1' : w8.cell? ⟨t2, 4, none⟩ = some (.int .i64 0) := hx8.cell 4 rfl
      have q1 := hx8.free 4
      have hg9 := grown_set w8 t2 4 (.int .i64 d)
      have HI9 := Kp.mk (show InS w0 w pb t2 pq a b c d rest 4 (w8.setCell ⟨t2, 4, none⟩ (.int .i64 d)) la8 lc8 from
        ⟨box_grow (box_grow HI.out.ptr HG8.out (fun e => by simp only [Option.some.injEq] at e; omega)) hg9 (fun e => by simp only [Option.some.injEq] at e; omega), qgrown_step (grown_trans HI.out.gr HG8.out) hg9 (fun q e => .inl (by cases e; rw [hT2]; exact Nat.le_refl _)), fun e => by omega, fun e => by omega, fun e => by omega, fun e => by omega, fun _ => ⟨by have := box_put (i := 4) hx8 (.int .i64 d); simpa using this, HS8.out.keep hg9 (fun k e => by cases e; exact ⟨by omega, by omega⟩)⟩⟩)
      clear hx8 hg9 CN HS7 HX7 HI HS8 HG8
      go_wp2
      clear b1' q1
      go_roundw
      case rel => exact ⟨4, la8, lc8, by omega, by go_num, HI9⟩
      case measure => simp [intOf]
    · obtain ⟨hx, hs⟩ := HI.out.at4 rfl
      have HX7 := Kp.mk hx
      have HS7 := Kp.mk hs
      have HG7 := Kp.mk HI.out.gr
      clear hx hs HI
      go_upto_region 17 with (fail)
      have hx0 := HX7.out
      have b0 : wr.cell? ⟨t2, 0, none⟩ = some (.int .i64 1) := hx0.cell 0 rfl
      have b1 : wr.cell? ⟨t2, 1, none⟩ = some (.int .i64 a) := hx0.cell 1 rfl
      have b2 : wr.cell? ⟨t2, 2, none⟩ = some (.int .i64 b) := hx0.cell 2 rfl
      have b3 : wr.cell? ⟨t2, 3, none⟩ = some (.int .i64 c) := hx0.cell 3 rfl
      have b4 : wr.cell? ⟨t2, 4, none⟩ = some (.int .i64 d) := hx0.cell 4 rfl
      have b5 : wr.cell? ⟨t2, 5, none⟩ = some (.int .i64 0) := hx0.cell 5 rfl
      have b6 : wr.cell? ⟨t2, 6, none⟩ = some (.slice none 0 0) := hx0.cell 6 rfl
      have q0 := hx0.free 0
      have q1 := hx0.free 1
      have q2 := hx0.free 2
      have q3 := hx0.free 3
      have q4 := hx0.free 4
      have q5 := hx0.free 5
      have q6 := hx0.free 6
      have HX9 := Kp.mk (st7_box hx0 (.int .i64 1) (.int .i64 a) (.int .i64 b) (.int .i64 c) (.int .i64 d) (.int .i64 0) (.slice none 0 0))
      have hg9 := st7_grown wr t2 (.int .i64 1) (.int .i64 a) (.int .i64 b) (.int .i64 c) (.int .i64 d) (.int .i64 0) (.slice none 0 0)
      have HS9 := Kp.mk (HS7.out.keep hg9 (fun k e => by cases e; exact ⟨by omega, by omega⟩))
      have HG9 := Kp.mk (show w.grownBy _ (some pb) from qgrown_step HG7.out hg9 (fun q e => .inl (by cases e; rw [hT2]; exact Nat.le_refl _)))
      clear hx0 hg9 HX7 HS7 HG7
      go_wp2
      clear b0 b1 b2 b3 b4 b5 b6 q0 q1 q2 q3 q4 q5 q6
      generalize (((((((wr.setCell ⟨t2, 0, none⟩ (.int .i64 1)).setCell ⟨t2, 1, none⟩ (.int .i64 a)).setCell ⟨t2, 2, none⟩ (.int .i64 b)).setCell ⟨t2, 3, none⟩ (.int .i64 c)).setCell ⟨t2, 4, none⟩ (.int .i64 d)).setCell ⟨t2, 5, none⟩ (.int .i64 0)).setCell ⟨t2, 6, none⟩ (.slice none 0 0)) = w9 at *
      have z0 : w9.cell? ⟨t2, 0, none⟩ = some (.int .i64 1) := HX9.out.cell 0 rfl
      have z1 : w9.cell? ⟨t2, 1, none⟩ = some (.int .i64 a) := HX9.out.cell 1 rfl
      have z2 : w9.cell? ⟨t2, 2, none⟩ = some (.int .i64 b) := HX9.out.cell 2 rfl
      have z3 : w9.cell? ⟨t2, 3, none⟩ = some (.int .i64 c) := HX9.out.cell 3 rfl
      have z4 : w9.cell? ⟨t2, 4, none⟩ = some (.int .i64 d) := HX9.out.cell 4 rfl
      have z5 : w9.cell? ⟨t2, 5, none⟩ = some (.int .i64 0) := HX9.out.cell 5 rfl
      have z6 : w9.cell? ⟨t2, 6, none⟩ = some (.slice none 0 0) := HX9.out.cell 6 rfl
      refine bodyPost_ret (v := .agg #[.int .i64 1, .int .i64 a, .int .i64 b, .int .i64 c, .int .i64 d, .int .i64 0, .slice none 0 0]) (by simp [results, Tryd.results29, go_sem, z0, z1, z2, z3, z4, z5, z6]) rfl ?_
      exact ⟨⟨1, a, b, c, d, 0, none, 0, 0⟩, la7, lc7, rfl, ⟨rfl⟩, HS9, HG9⟩

end Go.Proofs.YtakabjkhcdkkjaaDoor

/- The parser: and, or. -/
import Derived.Test.YtakabjkhcdkkjaaDoorQryI
namespace Go.Proofs.YtakabjkhcdkkjaaDoor
set_option linter.unusedVariables false
open Go.RowKit Qk

set_option maxRecDepth 100000 in
set_option maxHeartbeats 16000000 in
theorem and_any (w0 : World) (stop : Wd → Prop) (p0 : List Wd × Ex) (ps : List (List Wd × Ex)) (hP : ∀ p ∈ p0 :: ps, PartC w0 29 p.1 p.2 stop) (hsg : ¬ stop [38]) (hn : ps.length ≤ 2)
    (w : World) (pb lc : Nat) (la : Option Addr) (rest : List Wd) (hr : ∀ t, rest.head? = some t → ¬ stop t ∧ t ≠ [38]) (h : PS w0 w pb la lc (p0.1 ++ (tailW [38] ps ++ rest))) :
    Calls Tryd.prog 22 #[.pointer (some ⟨pb, 0, none⟩)] w fun e w' => ∃ (V : ExV) (vs : List ExV) (oa : Option Addr) (oc : Nat) (la' : Option Addr) (lc' : Nat),
      e = .returned (.agg #[.int .i64 V.k, .int .i64 V.a, .int .i64 V.b, .int .i64 V.c, .int .i64 V.d, .int .i64 V.x, .slice V.sa V.n V.cap]) ∧ Kp (V = listV 3 ps.length oa oc vs) ∧ Kp (ListR w.heap.size w' (ps.length + 1) (p0 :: ps) oa oc vs) ∧ Kp (PS w0 w' pb la' lc' rest) ∧ Kp (w.grownBy w' (some pb)) := by
  have hpb : pb < w.heap.size := h.box.lt
  have hw0 := h.bel.size
  have ha := below_alloc (Nat.le_refl w.heap.size) (.cells #[.int .i64 0, .int .i64 0, .int .i64 0, .int .i64 0, .int .i64 0, .int .i64 0, .slice none 0 0] 27)
  have HBX := Kp.mk (Box.new w #[.int .i64 0, .int .i64 0, .int .i64 0, .int .i64 0, .int .i64 0, .int .i64 0, .slice none 0 0] 27)
  obtain ⟨t2, ht2⟩ : ∃ t2, w.heap.size = t2 := ⟨_, rfl⟩
  have HA := Kp.mk ha
  obtain ⟨w1, hw1⟩ : ∃ w1, w.alloc (.cells #[.int .i64 0, .int .i64 0, .int .i64 0, .int .i64 0, .int .i64 0, .int .i64 0, .slice none 0 0] 27) = w1 := ⟨_, rfl⟩
  have hz1 : w1.heap.size = t2 + 1 := by rw [← hw1, alloc_size, ht2]
  have hsl := h.later ha
  rw [hw1] at HA HBX hsl
  rw [ht2] at HBX
  have CL := Kp.mk (list_one w0 3 38 stop p0 ps hP hsg hn w1 pb lc la rest hr hsl)
  have HZ1 := Kp.mk hz1
  have HT2 := Kp.mk ht2
  clear hP hr h ha hz1 hsl hsg hn
  go_enter Tryd.func22, Tryd.ntmps22
  go_upto_region 1 with (fail)
  clear hw1 ht2
  go_wp2_with fail
  refine CL.out.mono ?_
  rintro e w2 ⟨V, vs, oa, oc, la2, lc2, rfl, HVV, HL, HS, HG⟩
  have hT2 := HT2.out
  have hx0 := box_grow HBX.out HG.out (fun e => by simp only [Option.some.injEq] at e; omega)
  have b0 : w2.cell? ⟨t2, 0, none⟩ = some (.int .i64 0) := hx0.cell 0 rfl
  have b1 : w2.cell? ⟨t2, 1, none⟩ = some (.int .i64 0) := hx0.cell 1 rfl
  have b2 : w2.cell? ⟨t2, 2, none⟩ = some (.int .i64 0) := hx0.cell 2 rfl
  have b3 : w2.cell? ⟨t2, 3, none⟩ = some (.int .i64 0) := hx0.cell 3 rfl
  have b4 : w2.cell? ⟨t2, 4, none⟩ = some (.int .i64 0) := hx0.cell 4 rfl
  have b5 : w2.cell? ⟨t2, 5, none⟩ = some (.int .i64 0) := hx0.cell 5 rfl
  have b6 : w2.cell? ⟨t2, 6, none⟩ = some (.slice none 0 0) := hx0.cell 6 rfl
  have q0 := hx0.free 0
  have q1 := hx0.free 1
  have q2 := hx0.free 2
  have q3 := hx0.free 3
  have q4 := hx0.free 4
  have q5 := hx0.free 5
  have q6 := hx0.free 6
  have HX9 := Kp.mk (st7_box hx0 (.int .i64 V.k) (.int .i64 V.a) (.int .i64 V.b) (.int .i64 V.c) (.int .i64 V.d) (.int .i64 V.x) (.slice V.sa V.n V.cap))
  have hg9 := st7_grown w2 t2 (.int .i64 V.k) (.int .i64 V.a) (.int .i64 V.b) (.int .i64 V.c) (.int .i64 V.d) (.int .i64 V.x) (.slice V.sa V.n V.cap)
  have HL9 := Kp.mk ((HL.out.step hg9 (by have := HZ1.out; omega)).weak (B' := t2) (by have := HZ1.out; omega))
  have HS9 := Kp.mk (HS.out.keep hg9 (fun k e => by cases e; exact ⟨by omega, by omega⟩))
  have HG9 := Kp.mk (show w.grownBy _ (some pb) from qgrown_step (grown_trans (grown_of_below HA.out) HG.out) hg9 (fun q e => .inl (by cases e; rw [HT2.out]; exact Nat.le_refl _)))
  clear hx0 hg9 CL HL HS HG hT2
  go_wp2
  clear b0 b1 b2 b3 b4 b5 b6 q0 q1 q2 q3 q4 q5 q6
  generalize (((((((w2.setCell ⟨t2, 0, none⟩ (.int .i64 V.k)).setCell ⟨t2, 1, none⟩ (.int .i64 V.a)).setCell ⟨t2, 2, none⟩ (.int .i64 V.b)).setCell ⟨t2, 3, none⟩ (.int .i64 V.c)).setCell ⟨t2, 4, none⟩ (.int .i64 V.d)).setCell ⟨t2, 5, none⟩ (.int .i64 V.x)).setCell ⟨t2, 6, none⟩ (.slice V.sa V.n V.cap)) = w9 at *
  have z0 : w9.cell? ⟨t2, 0, none⟩ = some (.int .i64 V.k) := HX9.out.cell 0 rfl
  have z1 : w9.cell? ⟨t2, 1, none⟩ = some (.int .i64 V.a) := HX9.out.cell 1 rfl
  have z2 : w9.cell? ⟨t2, 2, none⟩ = some (.int .i64 V.b) := HX9.out.cell 2 rfl
  have z3 : w9.cell? ⟨t2, 3, none⟩ = some (.int .i64 V.c) := HX9.out.cell 3 rfl
  have z4 : w9.cell? ⟨t2, 4, none⟩ = some (.int .i64 V.d) := HX9.out.cell 4 rfl
  have z5 : w9.cell? ⟨t2, 5, none⟩ = some (.int .i64 V.x) := HX9.out.cell 5 rfl
  have z6 : w9.cell? ⟨t2, 6, none⟩ = some (.slice V.sa V.n V.cap) := HX9.out.cell 6 rfl
  refine bodyPost_ret (v := .agg #[.int .i64 V.k, .int .i64 V.a, .int .i64 V.b, .int .i64 V.c, .int .i64 V.d, .int .i64 V.x, .slice V.sa V.n V.cap]) (by simp [results, Tryd.results22, go_sem, z0, z1, z2, z3, z4, z5, z6]) rfl ?_
  exact ⟨V, vs, oa, oc, la2, lc2, rfl, HVV, by rw [HT2.out]; exact HL9, HS9, HG9⟩

set_option maxRecDepth 100000 in
set_option maxHeartbeats 16000000 in
theorem or_any (w0 : World) (stop : Wd → Prop) (p0 : List Wd × Ex) (ps : List (List Wd × Ex)) (hP : ∀ p ∈ p0 :: ps, PartC w0 22 p.1 p.2 stop) (hsg : ¬ stop [124]) (hn : ps.length ≤ 2)
    (w : World) (pb lc : Nat) (la : Option Addr) (rest : List Wd) (hr : ∀ t, rest.head? = some t → ¬ stop t ∧ t ≠ [124]) (h : PS w0 w pb la lc (p0.1 ++ (tailW [124] ps ++ rest))) :
    Calls Tryd.prog 14 #[.pointer (some ⟨pb, 0, none⟩)] w fun e w' => ∃ (V : ExV) (vs : List ExV) (oa : Option Addr) (oc : Nat) (la' : Option Addr) (lc' : Nat),
      e = .returned (.agg #[.int .i64 V.k, .int .i64 V.a, .int .i64 V.b, .int .i64 V.c, .int .i64 V.d, .int .i64 V.x, .slice V.sa V.n V.cap]) ∧ Kp (V = listV 4 ps.length oa oc vs) ∧ Kp (ListR w.heap.size w' (ps.length + 1) (p0 :: ps) oa oc vs) ∧ Kp (PS w0 w' pb la' lc' rest) ∧ Kp (w.grownBy w' (some pb)) := by
  have hpb : pb < w.heap.size := h.box.lt
  have hw0 := h.bel.size
  have ha := below_alloc (Nat.le_refl w.heap.size) (.cells #[.int .i64 0, .int .i64 0, .int .i64 0, .int .i64 0, .int .i64 0, .int .i64 0, .slice none 0 0] 27)
  have HBX := Kp.mk (Box.new w #[.int .i64 0, .int .i64 0, .int .i64 0, .int .i64 0, .int .i64 0, .int .i64 0, .slice none 0 0] 27)
  obtain ⟨t2, ht2⟩ : ∃ t2, w.heap.size = t2 := ⟨_, rfl⟩
  have HA := Kp.mk ha
  obtain ⟨w1, hw1⟩ : ∃ w1, w.alloc (.cells #[.int .i64 0, .int .i64 0, .int .i64 0, .int .i64 0, .int .i64 0, .int .i64 0, .slice none 0 0] 27) = w1 := ⟨_, rfl⟩
  have hz1 : w1.heap.size = t2 + 1 := by rw [← hw1, alloc_size, ht2]
  have hsl := h.later ha
  rw [hw1] at HA HBX hsl
  rw [ht2] at HBX
  have CL := Kp.mk (list_and w0 4 124 stop p0 ps hP hsg hn w1 pb lc la rest hr hsl)
  have HZ1 := Kp.mk hz1
  have HT2 := Kp.mk ht2
  clear hP hr h ha hz1 hsl hsg hn
  go_enter Tryd.func14, Tryd.ntmps14
  go_upto_region 1 with (fail)
  clear hw1 ht2
  go_wp2_with fail
  refine CL.out.mono ?_
  rintro e w2 ⟨V, vs, oa, oc, la2, lc2, rfl, HVV, HL, HS, HG⟩
  have hT2 := HT2.out
  have hx0 := box_grow HBX.out HG.out (fun e => by simp only [Option.some.injEq] at e; omega)
  have b0 : w2.cell? ⟨t2, 0, none⟩ = some (.int .i64 0) := hx0.cell 0 rfl
  have b1 : w2.cell? ⟨t2, 1, none⟩ = some (.int .i64 0) := hx0.cell 1 rfl
  have b2 : w2.cell? ⟨t2, 2, none⟩ = some (.int .i64 0) := hx0.cell 2 rfl
  have b3 : w2.cell? ⟨t2, 3, none⟩ = some (.int .i64 0) := hx0.cell 3 rfl
  have b4 : w2.cell? ⟨t2, 4, none⟩ = some (.int .i64 0) := hx0.cell 4 rfl
  have b5 : w2.cell? ⟨t2, 5, none⟩ = some (.int .i64 0) := hx0.cell 5 rfl
  have b6 : w2.cell? ⟨t2, 6, none⟩ = some (.slice none 0 0) := hx0.cell 6 rfl
  have q0 := hx0.free 0
  have q1 := hx0.free 1
  have q2 := hx0.free 2
  have q3 := hx0.free 3
  have q4 := hx0.free 4
  have q5 := hx0.free 5
  have q6 := hx0.free 6
  have HX9 := Kp.mk (st7_box hx0 (.int .i64 V.k) (.int .i64 V.a) (.int .i64 V.b) (.int .i64 V.c) (.int .i64 V.d) (.int .i64 V.x) (.slice V.sa V.n V.cap))
  have hg9 := st7_grown w2 t2 (.int .i64 V.k) (.int .i64 V.a) (.int .i64 V.b) (.int .i64 V.c) (.int .i64 V.d) (.int .i64 V.x) (.slice V.sa V.n V.cap)
  have HL9 := Kp.mk ((HL.out.step hg9 (by have := HZ1.out; omega)).weak (B' := t2) (by have := HZ1.out; omega))
  have HS9 := Kp.mk (HS.out.keep hg9 (fun k e => by cases e; exact ⟨by omega, by omega⟩))
  have HG9 := Kp.mk (show w.grownBy _ (some pb) from qgrown_step (grown_trans (grown_of_below HA.out) HG.out) hg9 (fun q e => .inl (by cases e; rw [HT2.out]; exact Nat.le_refl _)))
  clear hx0 hg9 CL HL HS HG hT2
  go_wp2
  clear b0 b1 b2 b3 b4 b5 b6 q0 q1 q2 q3 q4 q5 q6
  generalize (((((((w2.setCell ⟨t2, 0, none⟩ (.int .i64 V.k)).setCell ⟨t2, 1, none⟩ (.int .i64 V.a)).setCell ⟨t2, 2, none⟩ (.int .i64 V.b)).setCell ⟨t2, 3, none⟩ (.int .i64 V.c)).setCell ⟨t2, 4, none⟩ (.int .i64 V.d)).setCell ⟨t2, 5, none⟩ (.int .i64 V.x)).setCell ⟨t2, 6, none⟩ (.slice V.sa V.n V.cap)) = w9 at *
  have z0 : w9.cell? ⟨t2, 0, none⟩ = some (.int .i64 V.k) := HX9.out.cell 0 rfl
  have z1 : w9.cell? ⟨t2, 1, none⟩ = some (.int .i64 V.a) := HX9.out.cell 1 rfl
  have z2 : w9.cell? ⟨t2, 2, none⟩ = some (.int .i64 V.b) := HX9.out.cell 2 rfl
  have z3 : w9.cell? ⟨t2, 3, none⟩ = some (.int .i64 V.c) := HX9.out.cell 3 rfl
  have z4 : w9.cell? ⟨t2, 4, none⟩ = some (.int .i64 V.d) := HX9.out.cell 4 rfl
  have z5 : w9.cell? ⟨t2, 5, none⟩ = some (.int .i64 V.x) := HX9.out.cell 5 rfl
  have z6 : w9.cell? ⟨t2, 6, none⟩ = some (.slice V.sa V.n V.cap) := HX9.out.cell 6 rfl
  refine bodyPost_ret (v := .agg #[.int .i64 V.k, .int .i64 V.a, .int .i64 V.b, .int .i64 V.c, .int .i64 V.d, .int .i64 V.x, .slice V.sa V.n V.cap]) (by simp [results, Tryd.results14, go_sem, z0, z1, z2, z3, z4, z5, z6]) rfl ?_
  exact ⟨V, vs, oa, oc, la2, lc2, rfl, HVV, by rw [HT2.out]; exact HL9, HS9, HG9⟩

end Go.Proofs.YtakabjkhcdkkjaaDoor

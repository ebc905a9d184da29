/- Parse: the walk. -/
import Derived.Test.YtakabjkhcdkkjaaDoorQryU
import Derived.Test.YtakabjkhcdkkjaaDoorQryH
import Derived.Test.YtakabjkhcdkkjaaDoorQryC
namespace Go.Proofs.YtakabjkhcdkkjaaDoor
set_option linter.unusedVariables false
open Go.RowKit Qk

set_option maxRecDepth 100000 in
set_option maxHeartbeats 16000000 in
theorem parse_any (t : List UInt8) (n : Nat) (ht : t.length = n) (hn : n ≤ 400) (x : Ex) (hp : ∀ w0, PartC w0 14 (wordsF t) x stopO) (hs : x.small) (hd : x.dep ≤ 8) (hl : x.txt.length ≤ 400) (w : World) (hT : Tab w) :
    Calls Tryd.prog 8 #[str t] w fun e w' => ∃ v : ExV, e = .returned (.tuple #[.agg #[.int .i64 v.k, .int .i64 v.a, .int .i64 v.b, .int .i64 v.c, .int .i64 v.d, .int .i64 v.x, .slice v.sa v.n v.cap], .int .i64 0]) ∧ Kp (IsEx w' x v) ∧ Kp (Below w.heap.size w w') := by
  have hsz : (⟨t.toArray⟩ : ByteArray).size = n := by show t.toArray.size = n; simpa using ht
  have hz : (n : Int) ≤ 400 := by omega
  have HP := Kp.mk hp
  have ha := below_alloc (Nat.le_refl w.heap.size) (.cells #[.int .i64 0, .int .i64 0, .int .i64 0, .int .i64 0, .int .i64 0, .int .i64 0, .slice none 0 0] 27)
  have HBX := Kp.mk (Box.new w #[.int .i64 0, .int .i64 0, .int .i64 0, .int .i64 0, .int .i64 0, .int .i64 0, .slice none 0 0] 27)
  obtain ⟨t2, ht2⟩ : ∃ t2, w.heap.size = t2 := ⟨_, rfl⟩
  obtain ⟨w1, hw1⟩ : ∃ w1, w.alloc (.cells #[.int .i64 0, .int .i64 0, .int .i64 0, .int .i64 0, .int .i64 0, .int .i64 0, .slice none 0 0] 27) = w1 := ⟨_, rfl⟩
  have HZ1 := Kp.mk (show w1.heap.size = t2 + 1 by rw [← hw1, alloc_size, ht2])
  rw [hw1] at ha HBX
  rw [ht2] at HBX
  have HA := Kp.mk ha
  have HT1 := Kp.mk (hT.below ha)
  have HT2 := Kp.mk ht2
  have CW := Kp.mk (words_any t n ht (by omega) w1)
  have HS := Kp.mk hs
  have HD := Kp.mk hd
  have HL := Kp.mk hl
  clear ht hp hs hd hl hT ha
  go_enter Tryd.func8, Tryd.ntmps8
  go_upto_region 3 with (fail)
  clear hw1 ht2
  go_wp2_with fail
  refine CW.out.mono ?_
  rintro e w2 ⟨oa, m, oc, rfl, HWL, HO, HB2⟩
  have hal := below_alloc (Nat.le_refl w2.heap.size) (.cells #[.slice oa m oc, .bool false] 46)
  have hbn := Box.new w2 #[.slice oa m oc, .bool false] 46
  have HPS := Kp.mk (show PS w2 (w2.alloc (.cells #[.slice oa m oc, .bool false] 46)) w2.heap.size oa oc (wordsF t ++ []) from by
    obtain ⟨h1, _⟩ := HWL.out
    subst h1
    rw [List.append_nil]
    exact ⟨hbn, (own_slc HO.out).below hal, fun k e => (own_lt HO.out k e).2, HT1.out.below HB2.out, hal, Nat.le_refl _⟩)
  obtain ⟨pb, hpb⟩ : ∃ pb, w2.heap.size = pb := ⟨_, rfl⟩
  obtain ⟨w3, hw3⟩ : ∃ w3, w2.alloc (.cells #[.slice oa m oc, .bool false] 46) = w3 := ⟨_, rfl⟩
  have hz3 : w3.heap.size = pb + 1 := by rw [← hw3, alloc_size, hpb]
  have hz2 := HB2.out.size
  rw [hw3] at HPS
  rw [hpb] at HPS
  have HB3 := Kp.mk (show Below w1.heap.size w1 w3 from by rw [← hw3]; exact HB2.out.trans (hal.mono hz2))
  have HBX3 := Kp.mk (HBX.out.below HB3.out)
  have HZP := Kp.mk (show t2 < pb ∧ w3.heap.size = pb + 1 from ⟨by have := HZ1.out; omega, hz3⟩)
  have CO := Kp.mk (HP.out w2 w3 pb oc oa [] (fun t ht => by cases ht) HPS.out)
  clear CW HWL HO HB2 hal hbn HT1 HPS hz2 hz3 HBX
  go_upto_region 4 with (fail)
  try rw [hw3]
  try simp only [hpb]
  clear hw3 hpb
  go_wp2_with fail
  refine CO.out.mono ?_
  rintro e w4 ⟨v, la4, lc4, rfl, HV4, HS4, HG4⟩
  have hT2 := HT2.out
  have hZ1 := HZ1.out
  obtain ⟨hZP, hZ3⟩ := HZP.out
  have hz4 := HG4.out.size
  have hal := below_alloc (Nat.le_refl w4.heap.size) (.cells #[.int .i64 v.k, .int .i64 v.a, .int .i64 v.b, .int .i64 v.c, .int .i64 v.d, .int .i64 v.x, .slice v.sa v.n v.cap] 27)
  have HX5 := Kp.mk (Box.new w4 #[.int .i64 v.k, .int .i64 v.a, .int .i64 v.b, .int .i64 v.c, .int .i64 v.d, .int .i64 v.x, .slice v.sa v.n v.cap] 27)
  have HV5 := Kp.mk (HV4.out.below hal)
  have HS5 := Kp.mk (HS4.out.later hal)
  have HBX5 := Kp.mk ((box_grow HBX3.out HG4.out (fun e => by simp only [Option.some.injEq] at e; omega)).below hal)
  have HB5 := Kp.mk (show Below w1.heap.size w1 (w4.alloc (.cells #[.int .i64 v.k, .int .i64 v.a, .int .i64 v.b, .int .i64 v.c, .int .i64 v.d, .int .i64 v.x, .slice v.sa v.n v.cap] 27)) from (HB3.out.trans (below_of_grown HG4.out (by omega) (fun q e => by cases e; omega))).trans (hal.mono (by omega)))
  obtain ⟨t5, ht5⟩ : ∃ t5, w4.heap.size = t5 := ⟨_, rfl⟩
  obtain ⟨w5, hw5⟩ : ∃ w5, w4.alloc (.cells #[.int .i64 v.k, .int .i64 v.a, .int .i64 v.b, .int .i64 v.c, .int .i64 v.d, .int .i64 v.x, .slice v.sa v.n v.cap] 27) = w5 := ⟨_, rfl⟩
  rw [hw5] at HV5 HS5 HBX5 HB5
  have HX5' := Kp.mk (show Box w5 t5 #[.int .i64 v.k, .int .i64 v.a, .int .i64 v.b, .int .i64 v.c, .int .i64 v.d, .int .i64 v.x, .slice v.sa v.n v.cap] 27 from by rw [← hw5, ← ht5]; exact HX5.out)
  have HT5 := Kp.mk (show t2 < t5 from by omega)
  clear CO HV4 HS4 HG4 HBX3 HB3 hal HX5 HP
  go_upto_region 5 with (fail)
  try rw [hw5]
  try simp only [ht5]
  clear hw5 ht5 hz4
  have k1 : w5.cell? ⟨pb, 1, none⟩ = some (.bool false) := HS5.out.box.cell 1 rfl
  have k0 : w5.cell? ⟨pb, 0, none⟩ = some (.slice la4 0 lc4) := HS5.out.box.cell 0 rfl
  have c0 : w5.cell? ⟨t5, 0, none⟩ = some (.int .i64 v.k) := HX5'.out.cell 0 rfl
  have c1 : w5.cell? ⟨t5, 1, none⟩ = some (.int .i64 v.a) := HX5'.out.cell 1 rfl
  have c2 : w5.cell? ⟨t5, 2, none⟩ = some (.int .i64 v.b) := HX5'.out.cell 2 rfl
  have c3 : w5.cell? ⟨t5, 3, none⟩ = some (.int .i64 v.c) := HX5'.out.cell 3 rfl
  have c4 : w5.cell? ⟨t5, 4, none⟩ = some (.int .i64 v.d) := HX5'.out.cell 4 rfl
  have c5 : w5.cell? ⟨t5, 5, none⟩ = some (.int .i64 v.x) := HX5'.out.cell 5 rfl
  have c6 : w5.cell? ⟨t5, 6, none⟩ = some (.slice v.sa v.n v.cap) := HX5'.out.cell 6 rfl
  have CK := Kp.mk (qcheck_any x v w5 HV5.out.is HS.out HD.out HL.out HS5.out.tabs)
  go_upto_region 7 with (fail)
  go_wp2_with fail
  refine CK.out.mono ?_
  rintro e w6 ⟨rfl, hb6⟩
  have HV6 := Kp.mk (HV5.out.below hb6)
  have hx0 := HBX5.out.below hb6
  have hx5 := HX5'.out.below hb6
  have HB6 := Kp.mk (HB5.out.trans (hb6.mono HB5.out.size))
  clear k1 k0 c0 c1 c2 c3 c4 c5 c6 CK hb6 HV5 HS5 HBX5 HB5 HX5'
  have c0 : w6.cell? ⟨t5, 0, none⟩ = some (.int .i64 v.k) := hx5.cell 0 rfl
  have c1 : w6.cell? ⟨t5, 1, none⟩ = some (.int .i64 v.a) := hx5.cell 1 rfl
  have c2 : w6.cell? ⟨t5, 2, none⟩ = some (.int .i64 v.b) := hx5.cell 2 rfl
  have c3 : w6.cell? ⟨t5, 3, none⟩ = some (.int .i64 v.c) := hx5.cell 3 rfl
  have c4 : w6.cell? ⟨t5, 4, none⟩ = some (.int .i64 v.d) := hx5.cell 4 rfl
  have c5 : w6.cell? ⟨t5, 5, none⟩ = some (.int .i64 v.x) := hx5.cell 5 rfl
  have c6 : w6.cell? ⟨t5, 6, none⟩ = some (.slice v.sa v.n v.cap) := hx5.cell 6 rfl
  have b0 : w6.cell? ⟨t2, 0, none⟩ = some (.int .i64 0) := hx0.cell 0 rfl
  have b1 : w6.cell? ⟨t2, 1, none⟩ = some (.int .i64 0) := hx0.cell 1 rfl
  have b2 : w6.cell? ⟨t2, 2, none⟩ = some (.int .i64 0) := hx0.cell 2 rfl
  have b3 : w6.cell? ⟨t2, 3, none⟩ = some (.int .i64 0) := hx0.cell 3 rfl
  have b4 : w6.cell? ⟨t2, 4, none⟩ = some (.int .i64 0) := hx0.cell 4 rfl
  have b5 : w6.cell? ⟨t2, 5, none⟩ = some (.int .i64 0) := hx0.cell 5 rfl
  have b6 : w6.cell? ⟨t2, 6, none⟩ = some (.slice none 0 0) := hx0.cell 6 rfl
  have q0 := hx0.free 0
  have q1 := hx0.free 1
  have q2 := hx0.free 2
  have q3 := hx0.free 3
  have q4 := hx0.free 4
  have q5 := hx0.free 5
  have q6 := hx0.free 6
  have HX9 := Kp.mk (st7_box hx0 (.int .i64 v.k) (.int .i64 v.a) (.int .i64 v.b) (.int .i64 v.c) (.int .i64 v.d) (.int .i64 v.x) (.slice v.sa v.n v.cap))
  have hg9 := st7_grown w6 t2 (.int .i64 v.k) (.int .i64 v.a) (.int .i64 v.b) (.int .i64 v.c) (.int .i64 v.d) (.int .i64 v.x) (.slice v.sa v.n v.cap)
  have HV9 := Kp.mk (show IsExB (fun k => w3.heap.size ≤ k) _ x v from HV6.out.keep (Q := fun k => w3.heap.size ≤ k) (fun k hk hl => hg9.block k hl (fun e => by cases e; omega)) hg9.size (fun k hk _ => hk))
  have HB9 := Kp.mk (show Below w.heap.size w _ from (below_step HA.out HB6.out).trans (below_of_grown hg9 (by have := HB6.out.size; omega) (fun q e => by cases e; omega)))
  clear hx0 hx5 hg9 HV6 HB6
  go_wp2
  clear b0 b1 b2 b3 b4 b5 b6 q0 q1 q2 q3 q4 q5 q6 c0 c1 c2 c3 c4 c5 c6
  generalize (((((((w6.setCell ⟨t2, 0, none⟩ (.int .i64 v.k)).setCell ⟨t2, 1, none⟩ (.int .i64 v.a)).setCell ⟨t2, 2, none⟩ (.int .i64 v.b)).setCell ⟨t2, 3, none⟩ (.int .i64 v.c)).setCell ⟨t2, 4, none⟩ (.int .i64 v.d)).setCell ⟨t2, 5, none⟩ (.int .i64 v.x)).setCell ⟨t2, 6, none⟩ (.slice v.sa v.n v.cap)) = w9 at *
  have z0 : w9.cell? ⟨t2, 0, none⟩ = some (.int .i64 v.k) := HX9.out.cell 0 rfl
  have z1 : w9.cell? ⟨t2, 1, none⟩ = some (.int .i64 v.a) := HX9.out.cell 1 rfl
  have z2 : w9.cell? ⟨t2, 2, none⟩ = some (.int .i64 v.b) := HX9.out.cell 2 rfl
  have z3 : w9.cell? ⟨t2, 3, none⟩ = some (.int .i64 v.c) := HX9.out.cell 3 rfl
  have z4 : w9.cell? ⟨t2, 4, none⟩ = some (.int .i64 v.d) := HX9.out.cell 4 rfl
  have z5 : w9.cell? ⟨t2, 5, none⟩ = some (.int .i64 v.x) := HX9.out.cell 5 rfl
  have z6 : w9.cell? ⟨t2, 6, none⟩ = some (.slice v.sa v.n v.cap) := HX9.out.cell 6 rfl
  refine bodyPost_ret (v := .tuple #[.agg #[.int .i64 v.k, .int .i64 v.a, .int .i64 v.b, .int .i64 v.c, .int .i64 v.d, .int .i64 v.x, .slice v.sa v.n v.cap], .int .i64 0]) (by simp [results, Tryd.results8, go_sem, z0, z1, z2, z3, z4, z5, z6]) rfl ?_
  exact ⟨v, rfl, ⟨HV9.out.is⟩, HB9⟩

set_option maxRecDepth 100000 in
set_option maxHeartbeats 4000000 in
/-- A text that is too long. -/
theorem parse_size (t : List UInt8) (n : Nat) (ht : t.length = n) (hn : 400 < n) (hn2 : n ≤ 10000) (w : World) :
    Calls Tryd.prog 8 #[str t] w fun e w' => e = .returned (.tuple #[.agg #[.int .i64 0, .int .i64 0, .int .i64 0, .int .i64 0, .int .i64 0, .int .i64 0, .slice none 0 0], .int .i64 1]) ∧ Kp (Below w.heap.size w w') := by
  have hsz : (⟨t.toArray⟩ : ByteArray).size = n := by show t.toArray.size = n; simpa using ht
  have hz : ¬ (n : Int) ≤ 400 := by omega
  have hx0 := Box.new w #[.int .i64 0, .int .i64 0, .int .i64 0, .int .i64 0, .int .i64 0, .int .i64 0, .slice none 0 0] 27
  have hA := below_alloc (Nat.le_refl w.heap.size) (.cells #[.int .i64 0, .int .i64 0, .int .i64 0, .int .i64 0, .int .i64 0, .int .i64 0, .slice none 0 0] 27)
  obtain ⟨t2, ht2⟩ : ∃ t2, w.heap.size = t2 := ⟨_, rfl⟩
  obtain ⟨w6, hw1⟩ : ∃ w6, w.alloc (.cells #[.int .i64 0, .int .i64 0, .int .i64 0, .int .i64 0, .int .i64 0, .int .i64 0, .slice none 0 0] 27) = w6 := ⟨_, rfl⟩
  rw [hw1] at hx0 hA
  rw [ht2] at hx0
  have HA := Kp.mk hA
  have HT2 := Kp.mk ht2
  clear ht hA
  go_enter Tryd.func8, Tryd.ntmps8
  go_upto_region 1 with (fail)
  clear hw1 ht2
  have b0 : w6.cell? ⟨t2, 0, none⟩ = some (.int .i64 0) := hx0.cell 0 rfl
  have b1 : w6.cell? ⟨t2, 1, none⟩ = some (.int .i64 0) := hx0.cell 1 rfl
  have b2 : w6.cell? ⟨t2, 2, none⟩ = some (.int .i64 0) := hx0.cell 2 rfl
  have b3 : w6.cell? ⟨t2, 3, none⟩ = some (.int .i64 0) := hx0.cell 3 rfl
  have b4 : w6.cell? ⟨t2, 4, none⟩ = some (.int .i64 0) := hx0.cell 4 rfl
  have b5 : w6.cell? ⟨t2, 5, none⟩ = some (.int .i64 0) := hx0.cell 5 rfl
  have b6 : w6.cell? ⟨t2, 6, none⟩ = some (.slice none 0 0) := hx0.cell 6 rfl
  have q0 := hx0.free 0
  have q1 := hx0.free 1
  have q2 := hx0.free 2
  have q3 := hx0.free 3
  have q4 := hx0.free 4
  have q5 := hx0.free 5
  have q6 := hx0.free 6
  have HX9 := Kp.mk (st7_box hx0 (.int .i64 0) (.int .i64 0) (.int .i64 0) (.int .i64 0) (.int .i64 0) (.int .i64 0) (.slice none 0 0))
  have hg9 := st7_grown w6 t2 (.int .i64 0) (.int .i64 0) (.int .i64 0) (.int .i64 0) (.int .i64 0) (.int .i64 0) (.slice none 0 0)
  have HB9 := Kp.mk (show Below w.heap.size w _ from HA.out.trans (below_of_grown hg9 HA.out.size (fun q e => by cases e; rw [HT2.out]; exact Nat.le_refl _)))
  clear hx0 hg9
  go_wp2
  clear b0 b1 b2 b3 b4 b5 b6 q0 q1 q2 q3 q4 q5 q6
  generalize (((((((w6.setCell ⟨t2, 0, none⟩ (.int .i64 0)).setCell ⟨t2, 1, none⟩ (.int .i64 0)).setCell ⟨t2, 2, none⟩ (.int .i64 0)).setCell ⟨t2, 3, none⟩ (.int .i64 0)).setCell ⟨t2, 4, none⟩ (.int .i64 0)).setCell ⟨t2, 5, none⟩ (.int .i64 0)).setCell ⟨t2, 6, none⟩ (.slice none 0 0)) = w9 at *
  have z0 : w9.cell? ⟨t2, 0, none⟩ = some (.int .i64 0) := HX9.out.cell 0 rfl
  have z1 : w9.cell? ⟨t2, 1, none⟩ = some (.int .i64 0) := HX9.out.cell 1 rfl
  have z2 : w9.cell? ⟨t2, 2, none⟩ = some (.int .i64 0) := HX9.out.cell 2 rfl
  have z3 : w9.cell? ⟨t2, 3, none⟩ = some (.int .i64 0) := HX9.out.cell 3 rfl
  have z4 : w9.cell? ⟨t2, 4, none⟩ = some (.int .i64 0) := HX9.out.cell 4 rfl
  have z5 : w9.cell? ⟨t2, 5, none⟩ = some (.int .i64 0) := HX9.out.cell 5 rfl
  have z6 : w9.cell? ⟨t2, 6, none⟩ = some (.slice none 0 0) := HX9.out.cell 6 rfl
  refine bodyPost_ret (v := .tuple #[.agg #[.int .i64 0, .int .i64 0, .int .i64 0, .int .i64 0, .int .i64 0, .int .i64 0, .slice none 0 0], .int .i64 1]) (by simp [results, Tryd.results8, go_sem, z0, z1, z2, z3, z4, z5, z6]) rfl ?_
  exact ⟨rfl, HB9⟩

end Go.Proofs.YtakabjkhcdkkjaaDoor

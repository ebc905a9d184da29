import Derived.Test.YtedchegejalolaaGreatDoorMb12
import Derived.Test.YtedchegejalolaaGreatDoorMb5
import Derived.Test.YtedchegejalolaaGreatDoorMb6
import Derived.Test.YtedchegejalolaaGreatDoorMb10
import Derived.Test.YtedchegejalolaaGreatDoorMb23
import Derived.Test.YtedchegejalolaaGreatDoorMb28
import Derived.Test.YtedchegejalolaaGreatDoorMb32
import Derived.Test.YtedchegejalolaaGreatDoorMb33
/- The parser goes bad; words left over. -/
namespace Go.Proofs.YtedchegejalolaaGreatDoor
set_option linter.unusedVariables false
open Go.RowKit Qk

/-- A parser that is bad. -/
structure PB (w0 w : World) (pb : Nat) : Prop where
  box : ∃ (la : Option Addr) (n lc : Nat), Box w pb #[.slice la n lc, .bool true] 109
  bel : Below w0.heap.size w0 w
  lo : w0.heap.size ≤ pb
theorem PB.keep {w0 w w' : World} {pb : Nat} {b : Option Nat} (h : PB w0 w pb) (hg : w.grownBy w' b) (hq : ∀ k, b = some k → k ≠ pb ∧ w0.heap.size ≤ k) : PB w0 w' pb := by
  obtain ⟨la, n, lc, hb⟩ := h.box
  exact ⟨⟨la, n, lc, box_grow hb hg (fun e => (hq _ e).1 rfl)⟩, h.bel.trans (below_of_grown hg h.bel.size (fun k e => (hq k e).2)), h.lo⟩
theorem PB.later {w0 w w' : World} {pb : Nat} (h : PB w0 w pb) (hb : Below w.heap.size w w') : PB w0 w' pb := by
  obtain ⟨la, n, lc, hx⟩ := h.box
  exact ⟨⟨la, n, lc, hx.below hb⟩, h.bel.trans (hb.mono h.bel.size), h.lo⟩
/-- At these words the method goes bad. -/
def BadC (w0 : World) (f : FuncId) (T : List Wd) : Prop :=
  ∀ (w : World) (pb lc : Nat) (la : Option Addr), PS w0 w pb la lc T →
    Calls Tryz.prog f #[.pointer (some ⟨pb, 0, none⟩)] w fun e w' => ∃ (v : ExV), e = .returned (.agg #[.int .i64 v.k, .int .i64 v.a, .int .i64 v.b, .int .i64 v.c, .int .i64 v.d, .int .i64 v.x, .slice v.sa v.n v.cap]) ∧ Kp (PB w0 w' pb) ∧ Kp (w.grownBy w' (some pb))

set_option maxRecDepth 100000 in
set_option maxHeartbeats 4000000 in
theorem number_none (w0 w : World) (pb lc : Nat) (la : Option Addr) (h : PS w0 w pb la lc []) :
    Calls Tryz.prog 152 #[.pointer (some ⟨pb, 0, none⟩)] w fun e w' => e = .returned (.int .i64 0) ∧ Kp (PB w0 w' pb) ∧ Kp (w.grownBy w' (some pb)) := by
  have k0 : w.cell? ⟨pb, 0, none⟩ = some (.slice la 0 lc) := h.box.cell 0 rfl
  have k1 : w.cell? ⟨pb, 1, none⟩ = some (.bool false) := h.box.cell 1 rfl
  have f1 := h.box.free 1
  have hg := grown_set w pb 1 (.bool true)
  have HP := Kp.mk (show PB w0 (w.setCell ⟨pb, 1, none⟩ (.bool true)) pb from
    ⟨⟨la, 0, lc, by have := box_put (i := 1) h.box (.bool true); simpa using this⟩, h.bel.trans (below_of_grown hg h.bel.size (fun k e => by cases e; exact h.lo)), h.lo⟩)
  have HG := Kp.mk hg
  clear h hg
  go_enter Tryz.func152, Tryz.ntmps152
  go_wp2
  go_ret
  exact ⟨rfl, HP, HG⟩

set_option maxRecDepth 100000 in
set_option maxHeartbeats 16000000 in
theorem list_one_bad (w0 : World) (kind : Int) (sg : UInt8) (T : List Wd) (hP : BadC w0 119 T) (w : World) (pb lc : Nat) (la : Option Addr) (h : PS w0 w pb la lc T) :
    Calls Tryz.prog 92 #[.pointer (some ⟨pb, 0, none⟩), .int .i64 kind, str [sg], .func (.func 119) #[.pointer (some ⟨pb, 0, none⟩)] #[]] w fun e w' => ∃ (v : ExV), e = .returned (.agg #[.int .i64 v.k, .int .i64 v.a, .int .i64 v.b, .int .i64 v.c, .int .i64 v.d, .int .i64 v.x, .slice v.sa v.n v.cap]) ∧ Kp (PB w0 w' pb) ∧ Kp (w.grownBy w' (some pb)) := by
  have eg : ∀ args w, (callFunc 119 args).run Tryz.prog w = .ok (.enter 119 args) w := enters_of Tryz.func119 (by kernel_rfl) rfl
  have hw0 := h.bel.size
  have hpb : pb < w.heap.size := h.box.lt
  have ha := below_alloc (Nat.le_refl w.heap.size) (.cells #[.int .i64 0, .int .i64 0, .int .i64 0, .int .i64 0, .int .i64 0, .int .i64 0, .slice none 0 0] 83)
  have HA := Kp.mk ha
  have HBX := Kp.mk (Box.new w #[.int .i64 0, .int .i64 0, .int .i64 0, .int .i64 0, .int .i64 0, .int .i64 0, .slice none 0 0] 83)
  have hs := h.later ha
  obtain ⟨t8, ht8⟩ : ∃ t8, w.heap.size = t8 := ⟨_, rfl⟩
  obtain ⟨w1, hw1⟩ : ∃ w1, w.alloc (.cells #[.int .i64 0, .int .i64 0, .int .i64 0, .int .i64 0, .int .i64 0, .int .i64 0, .slice none 0 0] 83) = w1 := ⟨_, rfl⟩
  have HZ1 := Kp.mk (show w1.heap.size = t8 + 1 by rw [← hw1, alloc_size, ht8])
  rw [hw1] at HA HBX hs
  rw [ht8] at HBX
  have HT8 := Kp.mk ht8
  have CP := Kp.mk (hP w1 pb lc la hs)
  clear hP h ha hs
  go_enter Tryz.func92, Tryz.ntmps92
  go_upto_region 1 with (fail)
  clear hw1 ht8
  go_wp2_with fail
  refine CP.out.mono ?_
  rintro e w2 ⟨v, rfl, HB2, HG2⟩
  have hT8 := HT8.out
  have hZ1 := HZ1.out
  have hz2 := HG2.out.size
  have hal := below_alloc (Nat.le_refl w2.heap.size) (.cells #[.int .i64 v.k, .int .i64 v.a, .int .i64 v.b, .int .i64 v.c, .int .i64 v.d, .int .i64 v.x, .slice v.sa v.n v.cap] 83)
  have HB3 := Kp.mk (HB2.out.later hal)
  have HG3 := Kp.mk (show w.grownBy (w2.alloc (.cells #[.int .i64 v.k, .int .i64 v.a, .int .i64 v.b, .int .i64 v.c, .int .i64 v.d, .int .i64 v.x, .slice v.sa v.n v.cap] 83)) (some pb) from grown_trans (grown_trans (grown_of_below HA.out) HG2.out) (grown_of_below hal))
  have HX3 := Kp.mk (Box.new w2 #[.int .i64 v.k, .int .i64 v.a, .int .i64 v.b, .int .i64 v.c, .int .i64 v.d, .int .i64 v.x, .slice v.sa v.n v.cap] 83)
  have HBX3 := Kp.mk ((box_grow HBX.out HG2.out (fun e => by simp only [Option.some.injEq] at e; omega)).below hal)
  obtain ⟨q0', hq0⟩ : ∃ q0', w2.heap.size = q0' := ⟨_, rfl⟩
  obtain ⟨w3, hw3⟩ : ∃ w3, w2.alloc (.cells #[.int .i64 v.k, .int .i64 v.a, .int .i64 v.b, .int .i64 v.c, .int .i64 v.d, .int .i64 v.x, .slice v.sa v.n v.cap] 83) = w3 := ⟨_, rfl⟩
  have HX4 := Kp.mk (show Box w3 q0' #[.int .i64 v.k, .int .i64 v.a, .int .i64 v.b, .int .i64 v.c, .int .i64 v.d, .int .i64 v.x, .slice v.sa v.n v.cap] 83 from by rw [← hw3, ← hq0]; exact HX3.out)
  rw [hw3] at HB3 HG3 HBX3
  clear CP HB2 HG2 HX3 HBX hal
  go_upto_region 2 with (fail)
  try rw [hw3]
  try simp only [hq0]
  clear hw3 hq0 hz2
  obtain ⟨la3, n3, lc3, hbb⟩ := HB3.out.box
  have k1 : w3.cell? ⟨pb, 1, none⟩ = some (.bool true) := hbb.cell 1 rfl
  clear hbb
  go_loopw [9] (fun lv wr => lv = .slice (some ⟨q0', 0, none⟩) 1 1 ∧ wr = w3) (fun _ _ => 0)
  case atStart => exact ⟨rfl, rfl⟩
  case round =>
    obtain ⟨rfl, rfl⟩ := hrel
    have hx4 := HX4.out
    have hx0 := HBX3.out
    have c0 : wr.cell? ⟨q0', 0, none⟩ = some (.int .i64 v.k) := hx4.cell 0 rfl
    have c1 : wr.cell? ⟨q0', 1, none⟩ = some (.int .i64 v.a) := hx4.cell 1 rfl
    have c2 : wr.cell? ⟨q0', 2, none⟩ = some (.int .i64 v.b) := hx4.cell 2 rfl
    have c3 : wr.cell? ⟨q0', 3, none⟩ = some (.int .i64 v.c) := hx4.cell 3 rfl
    have c4 : wr.cell? ⟨q0', 4, none⟩ = some (.int .i64 v.d) := hx4.cell 4 rfl
    have c5 : wr.cell? ⟨q0', 5, none⟩ = some (.int .i64 v.x) := hx4.cell 5 rfl
    have c6 : wr.cell? ⟨q0', 6, none⟩ = some (.slice v.sa v.n v.cap) := hx4.cell 6 rfl
    have b0 : wr.cell? ⟨t8, 0, none⟩ = some (.int .i64 0) := hx0.cell 0 rfl
    have b1 : wr.cell? ⟨t8, 1, none⟩ = some (.int .i64 0) := hx0.cell 1 rfl
    have b2 : wr.cell? ⟨t8, 2, none⟩ = some (.int .i64 0) := hx0.cell 2 rfl
    have b3 : wr.cell? ⟨t8, 3, none⟩ = some (.int .i64 0) := hx0.cell 3 rfl
    have b4 : wr.cell? ⟨t8, 4, none⟩ = some (.int .i64 0) := hx0.cell 4 rfl
    have b5 : wr.cell? ⟨t8, 5, none⟩ = some (.int .i64 0) := hx0.cell 5 rfl
    have b6 : wr.cell? ⟨t8, 6, none⟩ = some (.slice none 0 0) := hx0.cell 6 rfl
    have q0 := hx0.free 0
    have q1 := hx0.free 1
    have q2 := hx0.free 2
    have q3 := hx0.free 3
    have q4 := hx0.free 4
    have q5 := hx0.free 5
    have q6 := hx0.free 6
    have hg9 := st7_grown wr t8 (.int .i64 v.k) (.int .i64 v.a) (.int .i64 v.b) (.int .i64 v.c) (.int .i64 v.d) (.int .i64 v.x) (.slice v.sa v.n v.cap)
    have HX9 := Kp.mk (st7_box hx0 (.int .i64 v.k) (.int .i64 v.a) (.int .i64 v.b) (.int .i64 v.c) (.int .i64 v.d) (.int .i64 v.x) (.slice v.sa v.n v.cap))
    have HB9 := Kp.mk (HB3.out.keep hg9 (fun k e => by cases e; exact ⟨by omega, by omega⟩))
    have HG9 := Kp.mk (show w.grownBy _ (some pb) from qgrown_step HG3.out hg9 (fun q e => .inl (by cases e; rw [hT8]; exact Nat.le_refl _)))
    clear hx0 hx4 hg9 HX4 HBX3 HB3 HG3
    go_wp2
    clear b0 b1 b2 b3 b4 b5 b6 q0 q1 q2 q3 q4 q5 q6 c0 c1 c2 c3 c4 c5 c6
    generalize (((((((wr.setCell ⟨t8, 0, none⟩ (.int .i64 v.k)).setCell ⟨t8, 1, none⟩ (.int .i64 v.a)).setCell ⟨t8, 2, none⟩ (.int .i64 v.b)).setCell ⟨t8, 3, none⟩ (.int .i64 v.c)).setCell ⟨t8, 4, none⟩ (.int .i64 v.d)).setCell ⟨t8, 5, none⟩ (.int .i64 v.x)).setCell ⟨t8, 6, none⟩ (.slice v.sa v.n v.cap)) = w9 at *
    have z0 : w9.cell? ⟨t8, 0, none⟩ = some (.int .i64 v.k) := HX9.out.cell 0 rfl
    have z1 : w9.cell? ⟨t8, 1, none⟩ = some (.int .i64 v.a) := HX9.out.cell 1 rfl
    have z2 : w9.cell? ⟨t8, 2, none⟩ = some (.int .i64 v.b) := HX9.out.cell 2 rfl
    have z3 : w9.cell? ⟨t8, 3, none⟩ = some (.int .i64 v.c) := HX9.out.cell 3 rfl
    have z4 : w9.cell? ⟨t8, 4, none⟩ = some (.int .i64 v.d) := HX9.out.cell 4 rfl
    have z5 : w9.cell? ⟨t8, 5, none⟩ = some (.int .i64 v.x) := HX9.out.cell 5 rfl
    have z6 : w9.cell? ⟨t8, 6, none⟩ = some (.slice v.sa v.n v.cap) := HX9.out.cell 6 rfl
    refine bodyPost_ret (v := .agg #[.int .i64 v.k, .int .i64 v.a, .int .i64 v.b, .int .i64 v.c, .int .i64 v.d, .int .i64 v.x, .slice v.sa v.n v.cap]) (by simp [results, Tryz.results92, go_sem, z0, z1, z2, z3, z4, z5, z6]) rfl ?_
    exact ⟨v, rfl, HB9, HG9⟩

set_option maxRecDepth 100000 in
set_option maxHeartbeats 16000000 in
theorem list_and_bad (w0 : World) (kind : Int) (sg : UInt8) (T : List Wd) (hP : BadC w0 93 T) (w : World) (pb lc : Nat) (la : Option Addr) (h : PS w0 w pb la lc T) :
    Calls Tryz.prog 92 #[.pointer (some ⟨pb, 0, none⟩), .int .i64 kind, str [sg], .func (.func 93) #[.pointer (some ⟨pb, 0, none⟩)] #[]] w fun e w' => ∃ (v : ExV), e = .returned (.agg #[.int .i64 v.k, .int .i64 v.a, .int .i64 v.b, .int .i64 v.c, .int .i64 v.d, .int .i64 v.x, .slice v.sa v.n v.cap]) ∧ Kp (PB w0 w' pb) ∧ Kp (w.grownBy w' (some pb)) := by
  have eg : ∀ args w, (callFunc 93 args).run Tryz.prog w = .ok (.enter 93 args) w := enters_of Tryz.func93 (by kernel_rfl) rfl
  have hw0 := h.bel.size
  have hpb : pb < w.heap.size := h.box.lt
  have ha := below_alloc (Nat.le_refl w.heap.size) (.cells #[.int .i64 0, .int .i64 0, .int .i64 0, .int .i64 0, .int .i64 0, .int .i64 0, .slice none 0 0] 83)
  have HA := Kp.mk ha
  have HBX := Kp.mk (Box.new w #[.int .i64 0, .int .i64 0, .int .i64 0, .int .i64 0, .int .i64 0, .int .i64 0, .slice none 0 0] 83)
  have hs := h.later ha
  obtain ⟨t8, ht8⟩ : ∃ t8, w.heap.size = t8 := ⟨_, rfl⟩
  obtain ⟨w1, hw1⟩ : ∃ w1, w.alloc (.cells #[.int .i64 0, .int .i64 0, .int .i64 0, .int .i64 0, .int .i64 0, .int .i64 0, .slice none 0 0] 83) = w1 := ⟨_, rfl⟩
  have HZ1 := Kp.mk (show w1.heap.size = t8 + 1 by rw [← hw1, alloc_size, ht8])
  rw [hw1] at HA HBX hs
  rw [ht8] at HBX
  have HT8 := Kp.mk ht8
  have CP := Kp.mk (hP w1 pb lc la hs)
  clear hP h ha hs
  go_enter Tryz.func92, Tryz.ntmps92
  go_upto_region 1 with (fail)
  clear hw1 ht8
  go_wp2_with fail
  refine CP.out.mono ?_
  rintro e w2 ⟨v, rfl, HB2, HG2⟩
  have hT8 := HT8.out
  have hZ1 := HZ1.out
  have hz2 := HG2.out.size
  have hal := below_alloc (Nat.le_refl w2.heap.size) (.cells #[.int .i64 v.k, .int .i64 v.a, .int .i64 v.b, .int .i64 v.c, .int .i64 v.d, .int .i64 v.x, .slice v.sa v.n v.cap] 83)
  have HB3 := Kp.mk (HB2.out.later hal)
  have HG3 := Kp.mk (show w.grownBy (w2.alloc (.cells #[.int .i64 v.k, .int .i64 v.a, .int .i64 v.b, .int .i64 v.c, .int .i64 v.d, .int .i64 v.x, .slice v.sa v.n v.cap] 83)) (some pb) from grown_trans (grown_trans (grown_of_below HA.out) HG2.out) (grown_of_below hal))
  have HX3 := Kp.mk (Box.new w2 #[.int .i64 v.k, .int .i64 v.a, .int .i64 v.b, .int .i64 v.c, .int .i64 v.d, .int .i64 v.x, .slice v.sa v.n v.cap] 83)
  have HBX3 := Kp.mk ((box_grow HBX.out HG2.out (fun e => by simp only [Option.some.injEq] at e; omega)).below hal)
  obtain ⟨q0', hq0⟩ : ∃ q0', w2.heap.size = q0' := ⟨_, rfl⟩
  obtain ⟨w3, hw3⟩ : ∃ w3, w2.alloc (.cells #[.int .i64 v.k, .int .i64 v.a, .int .i64 v.b, .int .i64 v.c, .int .i64 v.d, .int .i64 v.x, .slice v.sa v.n v.cap] 83) = w3 := ⟨_, rfl⟩
  have HX4 := Kp.mk (show Box w3 q0' #[.int .i64 v.k, .int .i64 v.a, .int .i64 v.b, .int .i64 v.c, .int .i64 v.d, .int .i64 v.x, .slice v.sa v.n v.cap] 83 from by rw [← hw3, ← hq0]; exact HX3.out)
  rw [hw3] at HB3 HG3 HBX3
  clear CP HB2 HG2 HX3 HBX hal
  go_upto_region 2 with (fail)
  try rw [hw3]
  try simp only [hq0]
  clear hw3 hq0 hz2
  obtain ⟨la3, n3, lc3, hbb⟩ := HB3.out.box
  have k1 : w3.cell? ⟨pb, 1, none⟩ = some (.bool true) := hbb.cell 1 rfl
  clear hbb
  go_loopw [9] (fun lv wr => lv = .slice (some ⟨q0', 0, none⟩) 1 1 ∧ wr = w3) (fun _ _ => 0)
  case atStart => exact ⟨rfl, rfl⟩
  case round =>
    obtain ⟨rfl, rfl⟩ := hrel
    have hx4 := HX4.out
    have hx0 := HBX3.out
    have c0 : wr.cell? ⟨q0', 0, none⟩ = some (.int .i64 v.k) := hx4.cell 0 rfl
    have c1 : wr.cell? ⟨q0', 1, none⟩ = some (.int .i64 v.a) := hx4.cell 1 rfl
    have c2 : wr.cell? ⟨q0', 2, none⟩ = some (.int .i64 v.b) := hx4.cell 2 rfl
    have c3 : wr.cell? ⟨q0', 3, none⟩ = some (.int .i64 v.c) := hx4.cell 3 rfl
    have c4 : wr.cell? ⟨q0', 4, none⟩ = some (.int .i64 v.d) := hx4.cell 4 rfl
    have c5 : wr.cell? ⟨q0', 5, none⟩ = some (.int .i64 v.x) := hx4.cell 5 rfl
    have c6 : wr.cell? ⟨q0', 6, none⟩ = some (.slice v.sa v.n v.cap) := hx4.cell 6 rfl
    have b0 : wr.cell? ⟨t8, 0, none⟩ = some (.int .i64 0) := hx0.cell 0 rfl
    have b1 : wr.cell? ⟨t8, 1, none⟩ = some (.int .i64 0) := hx0.cell 1 rfl
    have b2 : wr.cell? ⟨t8, 2, none⟩ = some (.int .i64 0) := hx0.cell 2 rfl
    have b3 : wr.cell? ⟨t8, 3, none⟩ = some (.int .i64 0) := hx0.cell 3 rfl
    have b4 : wr.cell? ⟨t8, 4, none⟩ = some (.int .i64 0) := hx0.cell 4 rfl
    have b5 : wr.cell? ⟨t8, 5, none⟩ = some (.int .i64 0) := hx0.cell 5 rfl
    have b6 : wr.cell? ⟨t8, 6, none⟩ = some (.slice none 0 0) := hx0.cell 6 rfl
    have q0 := hx0.free 0
    have q1 := hx0.free 1
    have q2 := hx0.free 2
    have q3 := hx0.free 3
    have q4 := hx0.free 4
    have q5 := hx0.free 5
    have q6 := hx0.free 6
    have hg9 := st7_grown wr t8 (.int .i64 v.k) (.int .i64 v.a) (.int .i64 v.b) (.int .i64 v.c) (.int .i64 v.d) (.int .i64 v.x) (.slice v.sa v.n v.cap)
    have HX9 := Kp.mk (st7_box hx0 (.int .i64 v.k) (.int .i64 v.a) (.int .i64 v.b) (.int .i64 v.c) (.int .i64 v.d) (.int .i64 v.x) (.slice v.sa v.n v.cap))
    have HB9 := Kp.mk (HB3.out.keep hg9 (fun k e => by cases e; exact ⟨by omega, by omega⟩))
    have HG9 := Kp.mk (show w.grownBy _ (some pb) from qgrown_step HG3.out hg9 (fun q e => .inl (by cases e; rw [hT8]; exact Nat.le_refl _)))
    clear hx0 hx4 hg9 HX4 HBX3 HB3 HG3
    go_wp2
    clear b0 b1 b2 b3 b4 b5 b6 q0 q1 q2 q3 q4 q5 q6 c0 c1 c2 c3 c4 c5 c6
    generalize (((((((wr.setCell ⟨t8, 0, none⟩ (.int .i64 v.k)).setCell ⟨t8, 1, none⟩ (.int .i64 v.a)).setCell ⟨t8, 2, none⟩ (.int .i64 v.b)).setCell ⟨t8, 3, none⟩ (.int .i64 v.c)).setCell ⟨t8, 4, none⟩ (.int .i64 v.d)).setCell ⟨t8, 5, none⟩ (.int .i64 v.x)).setCell ⟨t8, 6, none⟩ (.slice v.sa v.n v.cap)) = w9 at *
    have z0 : w9.cell? ⟨t8, 0, none⟩ = some (.int .i64 v.k) := HX9.out.cell 0 rfl
    have z1 : w9.cell? ⟨t8, 1, none⟩ = some (.int .i64 v.a) := HX9.out.cell 1 rfl
    have z2 : w9.cell? ⟨t8, 2, none⟩ = some (.int .i64 v.b) := HX9.out.cell 2 rfl
    have z3 : w9.cell? ⟨t8, 3, none⟩ = some (.int .i64 v.c) := HX9.out.cell 3 rfl
    have z4 : w9.cell? ⟨t8, 4, none⟩ = some (.int .i64 v.d) := HX9.out.cell 4 rfl
    have z5 : w9.cell? ⟨t8, 5, none⟩ = some (.int .i64 v.x) := HX9.out.cell 5 rfl
    have z6 : w9.cell? ⟨t8, 6, none⟩ = some (.slice v.sa v.n v.cap) := HX9.out.cell 6 rfl
    refine bodyPost_ret (v := .agg #[.int .i64 v.k, .int .i64 v.a, .int .i64 v.b, .int .i64 v.c, .int .i64 v.d, .int .i64 v.x, .slice v.sa v.n v.cap]) (by simp [results, Tryz.results92, go_sem, z0, z1, z2, z3, z4, z5, z6]) rfl ?_
    exact ⟨v, rfl, HB9, HG9⟩

set_option maxRecDepth 100000 in
set_option maxHeartbeats 16000000 in
theorem and_bad (w0 : World) (T : List Wd) (hP : BadC w0 119 T) : BadC w0 93 T := by
  intro w pb lc la h
  have hw0 := h.bel.size
  have hpb : pb < w.heap.size := h.box.lt
  have ha := below_alloc (Nat.le_refl w.heap.size) (.cells #[.int .i64 0, .int .i64 0, .int .i64 0, .int .i64 0, .int .i64 0, .int .i64 0, .slice none 0 0] 83)
  have HA := Kp.mk ha
  have HBX := Kp.mk (Box.new w #[.int .i64 0, .int .i64 0, .int .i64 0, .int .i64 0, .int .i64 0, .int .i64 0, .slice none 0 0] 83)
  have hs := h.later ha
  obtain ⟨t2, ht2⟩ : ∃ t2, w.heap.size = t2 := ⟨_, rfl⟩
  obtain ⟨w1, hw1⟩ : ∃ w1, w.alloc (.cells #[.int .i64 0, .int .i64 0, .int .i64 0, .int .i64 0, .int .i64 0, .int .i64 0, .slice none 0 0] 83) = w1 := ⟨_, rfl⟩
  have HZ1 := Kp.mk (show w1.heap.size = t2 + 1 by rw [← hw1, alloc_size, ht2])
  rw [hw1] at HA HBX hs
  rw [ht2] at HBX
  have HT2 := Kp.mk ht2
  have CL := Kp.mk (list_one_bad w0 3 38 T hP w1 pb lc la hs)
  clear hP h ha hs
  go_enter Tryz.func93, Tryz.ntmps93
  go_upto_region 1 with (fail)
  clear hw1 ht2
  go_wp2_with fail
  refine CL.out.mono ?_
  rintro e w2 ⟨v, rfl, HB2, HG2⟩
  have hT2 := HT2.out
  have hZ1 := HZ1.out
  have hx0 := box_grow HBX.out HG2.out (fun e => by simp only [Option.some.injEq] at e; omega)
  have b0 : w2.cell? ⟨t2, 0, none⟩ = some (.int .i64 0) := hx0.cell 0 rfl
  have b1 : w2.cell? ⟨t2, 1, none⟩ = some (.int .i64 0) := hx0.cell 1 rfl
  have b2 : w2.cell? ⟨t2, 2, none⟩ = some (.int .i64 0) := hx0.cell 2 rfl
  have b3 : w2.cell? ⟨t2, 3, none⟩ = some (.int .i64 0) := hx0.cell 3 rfl
  have b4 : w2.cell? ⟨t2, 4, none⟩ = some (.int .i64 0) := hx0.cell 4 rfl
  have b5 : w2.cell? ⟨t2, 5, none⟩ = some (.int .i64 0) := hx0.cell 5 rfl
  have b6 : w2.cell? ⟨t2, 6, none⟩ = some (.slice none 0 0) := hx0.cell 6 rfl
  have q0 := hx0.free 0
  have q1 := hx0.free 1
  have q2 := hx0.free 2
  have q3 := hx0.free 3
  have q4 := hx0.free 4
  have q5 := hx0.free 5
  have q6 := hx0.free 6
  have HX9 := Kp.mk (st7_box hx0 (.int .i64 v.k) (.int .i64 v.a) (.int .i64 v.b) (.int .i64 v.c) (.int .i64 v.d) (.int .i64 v.x) (.slice v.sa v.n v.cap))
  have hg9 := st7_grown w2 t2 (.int .i64 v.k) (.int .i64 v.a) (.int .i64 v.b) (.int .i64 v.c) (.int .i64 v.d) (.int .i64 v.x) (.slice v.sa v.n v.cap)
  have HB9 := Kp.mk (HB2.out.keep hg9 (fun k e => by cases e; exact ⟨by omega, by omega⟩))
  have HG9 := Kp.mk (show w.grownBy _ (some pb) from qgrown_step (grown_trans (grown_of_below HA.out) HG2.out) hg9 (fun q e => .inl (by cases e; rw [hT2]; exact Nat.le_refl _)))
  clear hx0 hg9 CL HB2 HG2
  go_wp2
  clear b0 b1 b2 b3 b4 b5 b6 q0 q1 q2 q3 q4 q5 q6
  generalize (((((((w2.setCell ⟨t2, 0, none⟩ (.int .i64 v.k)).setCell ⟨t2, 1, none⟩ (.int .i64 v.a)).setCell ⟨t2, 2, none⟩ (.int .i64 v.b)).setCell ⟨t2, 3, none⟩ (.int .i64 v.c)).setCell ⟨t2, 4, none⟩ (.int .i64 v.d)).setCell ⟨t2, 5, none⟩ (.int .i64 v.x)).setCell ⟨t2, 6, none⟩ (.slice v.sa v.n v.cap)) = w9 at *
  have z0 : w9.cell? ⟨t2, 0, none⟩ = some (.int .i64 v.k) := HX9.out.cell 0 rfl
  have z1 : w9.cell? ⟨t2, 1, none⟩ = some (.int .i64 v.a) := HX9.out.cell 1 rfl
  have z2 : w9.cell? ⟨t2, 2, none⟩ = some (.int .i64 v.b) := HX9.out.cell 2 rfl
  have z3 : w9.cell? ⟨t2, 3, none⟩ = some (.int .i64 v.c) := HX9.out.cell 3 rfl
  have z4 : w9.cell? ⟨t2, 4, none⟩ = some (.int .i64 v.d) := HX9.out.cell 4 rfl
  have z5 : w9.cell? ⟨t2, 5, none⟩ = some (.int .i64 v.x) := HX9.out.cell 5 rfl
  have z6 : w9.cell? ⟨t2, 6, none⟩ = some (.slice v.sa v.n v.cap) := HX9.out.cell 6 rfl
  refine bodyPost_ret (v := .agg #[.int .i64 v.k, .int .i64 v.a, .int .i64 v.b, .int .i64 v.c, .int .i64 v.d, .int .i64 v.x, .slice v.sa v.n v.cap]) (by simp [results, Tryz.results93, go_sem, z0, z1, z2, z3, z4, z5, z6]) rfl ?_
  exact ⟨v, rfl, HB9, HG9⟩

set_option maxRecDepth 100000 in
set_option maxHeartbeats 16000000 in
theorem or_bad (w0 : World) (T : List Wd) (hP : BadC w0 93 T) : BadC w0 64 T := by
  intro w pb lc la h
  have hw0 := h.bel.size
  have hpb : pb < w.heap.size := h.box.lt
  have ha := below_alloc (Nat.le_refl w.heap.size) (.cells #[.int .i64 0, .int .i64 0, .int .i64 0, .int .i64 0, .int .i64 0, .int .i64 0, .slice none 0 0] 83)
  have HA := Kp.mk ha
  have HBX := Kp.mk (Box.new w #[.int .i64 0, .int .i64 0, .int .i64 0, .int .i64 0, .int .i64 0, .int .i64 0, .slice none 0 0] 83)
  have hs := h.later ha
  obtain ⟨t2, ht2⟩ : ∃ t2, w.heap.size = t2 := ⟨_, rfl⟩
  obtain ⟨w1, hw1⟩ : ∃ w1, w.alloc (.cells #[.int .i64 0, .int .i64 0, .int .i64 0, .int .i64 0, .int .i64 0, .int .i64 0, .slice none 0 0] 83) = w1 := ⟨_, rfl⟩
  have HZ1 := Kp.mk (show w1.heap.size = t2 + 1 by rw [← hw1, alloc_size, ht2])
  rw [hw1] at HA HBX hs
  rw [ht2] at HBX
  have HT2 := Kp.mk ht2
  have CL := Kp.mk (list_and_bad w0 4 124 T hP w1 pb lc la hs)
  clear hP h ha hs
  go_enter Tryz.func64, Tryz.ntmps64
  go_upto_region 1 with (fail)
  clear hw1 ht2
  go_wp2_with fail
  refine CL.out.mono ?_
  rintro e w2 ⟨v, rfl, HB2, HG2⟩
  have hT2 := HT2.out
  have hZ1 := HZ1.out
  have hx0 := box_grow HBX.out HG2.out (fun e => by simp only [Option.some.injEq] at e; omega)
  have b0 : w2.cell? ⟨t2, 0, none⟩ = some (.int .i64 0) := hx0.cell 0 rfl
  have b1 : w2.cell? ⟨t2, 1, none⟩ = some (.int .i64 0) := hx0.cell 1 rfl
  have b2 : w2.cell? ⟨t2, 2, none⟩ = some (.int .i64 0) := hx0.cell 2 rfl
  have b3 : w2.cell? ⟨t2, 3, none⟩ = some (.int .i64 0) := hx0.cell 3 rfl
  have b4 : w2.cell? ⟨t2, 4, none⟩ = some (.int .i64 0) := hx0.cell 4 rfl
  have b5 : w2.cell? ⟨t2, 5, none⟩ = some (.int .i64 0) := hx0.cell 5 rfl
  have b6 : w2.cell? ⟨t2, 6, none⟩ = some (.slice none 0 0) := hx0.cell 6 rfl
  have q0 := hx0.free 0
  have q1 := hx0.free 1
  have q2 := hx0.free 2
  have q3 := hx0.free 3
  have q4 := hx0.free 4
  have q5 := hx0.free 5
  have q6 := hx0.free 6
  have HX9 := Kp.mk (st7_box hx0 (.int .i64 v.k) (.int .i64 v.a) (.int .i64 v.b) (.int .i64 v.c) (.int .i64 v.d) (.int .i64 v.x) (.slice v.sa v.n v.cap))
  have hg9 := st7_grown w2 t2 (.int .i64 v.k) (.int .i64 v.a) (.int .i64 v.b) (.int .i64 v.c) (.int .i64 v.d) (.int .i64 v.x) (.slice v.sa v.n v.cap)
  have HB9 := Kp.mk (HB2.out.keep hg9 (fun k e => by cases e; exact ⟨by omega, by omega⟩))
  have HG9 := Kp.mk (show w.grownBy _ (some pb) from qgrown_step (grown_trans (grown_of_below HA.out) HG2.out) hg9 (fun q e => .inl (by cases e; rw [hT2]; exact Nat.le_refl _)))
  clear hx0 hg9 CL HB2 HG2
  go_wp2
  clear b0 b1 b2 b3 b4 b5 b6 q0 q1 q2 q3 q4 q5 q6
  generalize (((((((w2.setCell ⟨t2, 0, none⟩ (.int .i64 v.k)).setCell ⟨t2, 1, none⟩ (.int .i64 v.a)).setCell ⟨t2, 2, none⟩ (.int .i64 v.b)).setCell ⟨t2, 3, none⟩ (.int .i64 v.c)).setCell ⟨t2, 4, none⟩ (.int .i64 v.d)).setCell ⟨t2, 5, none⟩ (.int .i64 v.x)).setCell ⟨t2, 6, none⟩ (.slice v.sa v.n v.cap)) = w9 at *
  have z0 : w9.cell? ⟨t2, 0, none⟩ = some (.int .i64 v.k) := HX9.out.cell 0 rfl
  have z1 : w9.cell? ⟨t2, 1, none⟩ = some (.int .i64 v.a) := HX9.out.cell 1 rfl
  have z2 : w9.cell? ⟨t2, 2, none⟩ = some (.int .i64 v.b) := HX9.out.cell 2 rfl
  have z3 : w9.cell? ⟨t2, 3, none⟩ = some (.int .i64 v.c) := HX9.out.cell 3 rfl
  have z4 : w9.cell? ⟨t2, 4, none⟩ = some (.int .i64 v.d) := HX9.out.cell 4 rfl
  have z5 : w9.cell? ⟨t2, 5, none⟩ = some (.int .i64 v.x) := HX9.out.cell 5 rfl
  have z6 : w9.cell? ⟨t2, 6, none⟩ = some (.slice v.sa v.n v.cap) := HX9.out.cell 6 rfl
  refine bodyPost_ret (v := .agg #[.int .i64 v.k, .int .i64 v.a, .int .i64 v.b, .int .i64 v.c, .int .i64 v.d, .int .i64 v.x, .slice v.sa v.n v.cap]) (by simp [results, Tryz.results64, go_sem, z0, z1, z2, z3, z4, z5, z6]) rfl ?_
  exact ⟨v, rfl, HB9, HG9⟩

end Go.Proofs.YtedchegejalolaaGreatDoor

/- Parse refuses. -/
namespace Go.Proofs.YtedchegejalolaaGreatDoor
set_option linter.unusedVariables false
open Go.RowKit Qk

set_option maxRecDepth 100000 in
set_option maxHeartbeats 16000000 in
theorem parse_bad (t : List UInt8) (n : Nat) (ht : t.length = n) (hn : n ≤ 400) (hp : ∀ w0, BadC w0 64 (wordsF t)) (w : World) (hT : Tab w) :
    Calls Tryz.prog 42 #[str t] w fun e w' => e = .returned (.tuple #[.agg #[.int .i64 0, .int .i64 0, .int .i64 0, .int .i64 0, .int .i64 0, .int .i64 0, .slice none 0 0], .int .i64 10]) ∧ Kp (Below w.heap.size w w') := by
  have hsz : (⟨t.toArray⟩ : ByteArray).size = n := by show t.toArray.size = n; simpa using ht
  have hz : (n : Int) ≤ 400 := by omega
  have HP := Kp.mk hp
  have ha := below_alloc (Nat.le_refl w.heap.size) (.cells #[.int .i64 0, .int .i64 0, .int .i64 0, .int .i64 0, .int .i64 0, .int .i64 0, .slice none 0 0] 83)
  have HBX := Kp.mk (Box.new w #[.int .i64 0, .int .i64 0, .int .i64 0, .int .i64 0, .int .i64 0, .int .i64 0, .slice none 0 0] 83)
  obtain ⟨t2, ht2⟩ : ∃ t2, w.heap.size = t2 := ⟨_, rfl⟩
  obtain ⟨w1, hw1⟩ : ∃ w1, w.alloc (.cells #[.int .i64 0, .int .i64 0, .int .i64 0, .int .i64 0, .int .i64 0, .int .i64 0, .slice none 0 0] 83) = w1 := ⟨_, rfl⟩
  have HZ1 := Kp.mk (show w1.heap.size = t2 + 1 by rw [← hw1, alloc_size, ht2])
  rw [hw1] at ha HBX
  rw [ht2] at HBX
  have HA := Kp.mk ha
  have HT1 := Kp.mk (hT.below ha)
  have HT2 := Kp.mk ht2
  have CW := Kp.mk (words_any t n ht (by omega) w1)
  clear ht hp hT ha
  go_enter Tryz.func42, Tryz.ntmps42
  go_upto_region 3 with (fail)
  clear hw1 ht2
  go_wp2_with fail
  refine CW.out.mono ?_
  rintro e w2 ⟨oa, m, oc, rfl, HWL, HO, HB2⟩
  have hal := below_alloc (Nat.le_refl w2.heap.size) (.cells #[.slice oa m oc, .bool false] 109)
  have hbn := Box.new w2 #[.slice oa m oc, .bool false] 109
  have HPS := Kp.mk (show PS w2 (w2.alloc (.cells #[.slice oa m oc, .bool false] 109)) w2.heap.size oa oc (wordsF t) from by
    obtain ⟨h1, _⟩ := HWL.out
    subst h1
    exact ⟨hbn, (own_slc HO.out).below hal, fun k e => (own_lt HO.out k e).2, HT1.out.below HB2.out, hal, Nat.le_refl _⟩)
  obtain ⟨pb, hpb⟩ : ∃ pb, w2.heap.size = pb := ⟨_, rfl⟩
  obtain ⟨w3, hw3⟩ : ∃ w3, w2.alloc (.cells #[.slice oa m oc, .bool false] 109) = w3 := ⟨_, rfl⟩
  have hz3 : w3.heap.size = pb + 1 := by rw [← hw3, alloc_size, hpb]
  have hz2 := HB2.out.size
  rw [hw3] at HPS
  rw [hpb] at HPS
  have HB3 := Kp.mk (show Below w1.heap.size w1 w3 from by rw [← hw3]; exact HB2.out.trans (hal.mono hz2))
  have HBX3 := Kp.mk (HBX.out.below HB3.out)
  have HZP := Kp.mk (show t2 < pb ∧ w3.heap.size = pb + 1 from ⟨by have := HZ1.out; omega, hz3⟩)
  have CO := Kp.mk (HP.out w2 w3 pb oc oa HPS.out)
  clear CW HWL HO HB2 hal hbn HT1 HPS hz2 hz3 HBX
  go_upto_region 4 with (fail)
  try rw [hw3]
  try simp only [hpb]
  clear hw3 hpb
  go_wp2_with fail
  refine CO.out.mono ?_
  rintro e w4 ⟨v, rfl, HS4, HG4⟩
  have hT2 := HT2.out
  have hZ1 := HZ1.out
  obtain ⟨hZP, hZ3⟩ := HZP.out
  have hz4 := HG4.out.size
  have hal := below_alloc (Nat.le_refl w4.heap.size) (.cells #[.int .i64 v.k, .int .i64 v.a, .int .i64 v.b, .int .i64 v.c, .int .i64 v.d, .int .i64 v.x, .slice v.sa v.n v.cap] 83)
  have HS5 := Kp.mk (HS4.out.later hal)
  have HBX5 := Kp.mk ((box_grow HBX3.out HG4.out (fun e => by simp only [Option.some.injEq] at e; omega)).below hal)
  have HB5 := Kp.mk (show Below w1.heap.size w1 (w4.alloc (.cells #[.int .i64 v.k, .int .i64 v.a, .int .i64 v.b, .int .i64 v.c, .int .i64 v.d, .int .i64 v.x, .slice v.sa v.n v.cap] 83)) from (HB3.out.trans (below_of_grown HG4.out (by omega) (fun q e => by cases e; omega))).trans (hal.mono (by omega)))
  obtain ⟨w5, hw5⟩ : ∃ w5, w4.alloc (.cells #[.int .i64 v.k, .int .i64 v.a, .int .i64 v.b, .int .i64 v.c, .int .i64 v.d, .int .i64 v.x, .slice v.sa v.n v.cap] 83) = w5 := ⟨_, rfl⟩
  rw [hw5] at HS5 HBX5 HB5
  clear CO HS4 HG4 HBX3 HB3 hal HP
  go_upto_region 5 with (fail)
  try rw [hw5]
  clear hw5 hz4
  obtain ⟨la5, n5, lc5, hbb⟩ := HS5.out.box
  have k1 : w5.cell? ⟨pb, 1, none⟩ = some (.bool true) := hbb.cell 1 rfl
  clear hbb
  have hx0 := HBX5.out
  have b0 : w5.cell? ⟨t2, 0, none⟩ = some (.int .i64 0) := hx0.cell 0 rfl
  have b1 : w5.cell? ⟨t2, 1, none⟩ = some (.int .i64 0) := hx0.cell 1 rfl
  have b2 : w5.cell? ⟨t2, 2, none⟩ = some (.int .i64 0) := hx0.cell 2 rfl
  have b3 : w5.cell? ⟨t2, 3, none⟩ = some (.int .i64 0) := hx0.cell 3 rfl
  have b4 : w5.cell? ⟨t2, 4, none⟩ = some (.int .i64 0) := hx0.cell 4 rfl
  have b5 : w5.cell? ⟨t2, 5, none⟩ = some (.int .i64 0) := hx0.cell 5 rfl
  have b6 : w5.cell? ⟨t2, 6, none⟩ = some (.slice none 0 0) := hx0.cell 6 rfl
  have q0 := hx0.free 0
  have q1 := hx0.free 1
  have q2 := hx0.free 2
  have q3 := hx0.free 3
  have q4 := hx0.free 4
  have q5 := hx0.free 5
  have q6 := hx0.free 6
  have HX9 := Kp.mk (st7_box hx0 (.int .i64 0) (.int .i64 0) (.int .i64 0) (.int .i64 0) (.int .i64 0) (.int .i64 0) (.slice none 0 0))
  have hg9 := st7_grown w5 t2 (.int .i64 0) (.int .i64 0) (.int .i64 0) (.int .i64 0) (.int .i64 0) (.int .i64 0) (.slice none 0 0)
  have HB9 := Kp.mk (show Below w.heap.size w _ from (below_step HA.out HB5.out).trans (below_of_grown hg9 (by have := HB5.out.size; omega) (fun q e => by cases e; omega)))
  clear hx0 hg9 HB5 HBX5 HS5
  go_wp2
  clear b0 b1 b2 b3 b4 b5 b6 q0 q1 q2 q3 q4 q5 q6
  generalize (((((((w5.setCell ⟨t2, 0, none⟩ (.int .i64 0)).setCell ⟨t2, 1, none⟩ (.int .i64 0)).setCell ⟨t2, 2, none⟩ (.int .i64 0)).setCell ⟨t2, 3, none⟩ (.int .i64 0)).setCell ⟨t2, 4, none⟩ (.int .i64 0)).setCell ⟨t2, 5, none⟩ (.int .i64 0)).setCell ⟨t2, 6, none⟩ (.slice none 0 0)) = w9 at *
  have z0 : w9.cell? ⟨t2, 0, none⟩ = some (.int .i64 0) := HX9.out.cell 0 rfl
  have z1 : w9.cell? ⟨t2, 1, none⟩ = some (.int .i64 0) := HX9.out.cell 1 rfl
  have z2 : w9.cell? ⟨t2, 2, none⟩ = some (.int .i64 0) := HX9.out.cell 2 rfl
  have z3 : w9.cell? ⟨t2, 3, none⟩ = some (.int .i64 0) := HX9.out.cell 3 rfl
  have z4 : w9.cell? ⟨t2, 4, none⟩ = some (.int .i64 0) := HX9.out.cell 4 rfl
  have z5 : w9.cell? ⟨t2, 5, none⟩ = some (.int .i64 0) := HX9.out.cell 5 rfl
  have z6 : w9.cell? ⟨t2, 6, none⟩ = some (.slice none 0 0) := HX9.out.cell 6 rfl
  refine bodyPost_ret (v := .tuple #[.agg #[.int .i64 0, .int .i64 0, .int .i64 0, .int .i64 0, .int .i64 0, .int .i64 0, .slice none 0 0], .int .i64 10]) (by simp [results, Tryz.results42, go_sem, z0, z1, z2, z3, z4, z5, z6]) rfl ?_
  exact ⟨rfl, HB9⟩

set_option maxRecDepth 100000 in
set_option maxHeartbeats 16000000 in
theorem parse_left (t : List UInt8) (n : Nat) (ht : t.length = n) (hn : n ≤ 400) (T rest : List Wd) (x : Ex) (hw : wordsF t = T ++ rest) (hr : ∀ u, rest.head? = some u → ¬ stopO u) (h0 : 0 < rest.length) (hp : ∀ w0, PartC w0 64 T x stopO) (w : World) (hT : Tab w) :
    Calls Tryz.prog 42 #[str t] w fun e w' => e = .returned (.tuple #[.agg #[.int .i64 0, .int .i64 0, .int .i64 0, .int .i64 0, .int .i64 0, .int .i64 0, .slice none 0 0], .int .i64 10]) ∧ Kp (Below w.heap.size w w') := by
  have hsz : (⟨t.toArray⟩ : ByteArray).size = n := by show t.toArray.size = n; simpa using ht
  have hz : (n : Int) ≤ 400 := by omega
  have HP := Kp.mk hp
  have ha := below_alloc (Nat.le_refl w.heap.size) (.cells #[.int .i64 0, .int .i64 0, .int .i64 0, .int .i64 0, .int .i64 0, .int .i64 0, .slice none 0 0] 83)
  have HBX := Kp.mk (Box.new w #[.int .i64 0, .int .i64 0, .int .i64 0, .int .i64 0, .int .i64 0, .int .i64 0, .slice none 0 0] 83)
  obtain ⟨t2, ht2⟩ : ∃ t2, w.heap.size = t2 := ⟨_, rfl⟩
  obtain ⟨w1, hw1⟩ : ∃ w1, w.alloc (.cells #[.int .i64 0, .int .i64 0, .int .i64 0, .int .i64 0, .int .i64 0, .int .i64 0, .slice none 0 0] 83) = w1 := ⟨_, rfl⟩
  have HZ1 := Kp.mk (show w1.heap.size = t2 + 1 by rw [← hw1, alloc_size, ht2])
  rw [hw1] at ha HBX
  rw [ht2] at HBX
  have HA := Kp.mk ha
  have HT1 := Kp.mk (hT.below ha)
  have HT2 := Kp.mk ht2
  have CW := Kp.mk (words_any t n ht (by omega) w1)
  clear ht hp hT ha
  go_enter Tryz.func42, Tryz.ntmps42
  go_upto_region 3 with (fail)
  clear hw1 ht2
  go_wp2_with fail
  refine CW.out.mono ?_
  rintro e w2 ⟨oa, m, oc, rfl, HWL, HO, HB2⟩
  have hal := below_alloc (Nat.le_refl w2.heap.size) (.cells #[.slice oa m oc, .bool false] 109)
  have hbn := Box.new w2 #[.slice oa m oc, .bool false] 109
  have HPS := Kp.mk (show PS w2 (w2.alloc (.cells #[.slice oa m oc, .bool false] 109)) w2.heap.size oa oc (T ++ rest) from by
    obtain ⟨h1, _⟩ := HWL.out
    subst h1
    rw [← hw]
    exact ⟨hbn, (own_slc HO.out).below hal, fun k e => (own_lt HO.out k e).2, HT1.out.below HB2.out, hal, Nat.le_refl _⟩)
  obtain ⟨pb, hpb⟩ : ∃ pb, w2.heap.size = pb := ⟨_, rfl⟩
  obtain ⟨w3, hw3⟩ : ∃ w3, w2.alloc (.cells #[.slice oa m oc, .bool false] 109) = w3 := ⟨_, rfl⟩
  have hz3 : w3.heap.size = pb + 1 := by rw [← hw3, alloc_size, hpb]
  have hz2 := HB2.out.size
  rw [hw3] at HPS
  rw [hpb] at HPS
  have HB3 := Kp.mk (show Below w1.heap.size w1 w3 from by rw [← hw3]; exact HB2.out.trans (hal.mono hz2))
  have HBX3 := Kp.mk (HBX.out.below HB3.out)
  have HZP := Kp.mk (show t2 < pb ∧ w3.heap.size = pb + 1 from ⟨by have := HZ1.out; omega, hz3⟩)
  have CO := Kp.mk (HP.out w2 w3 pb oc oa rest hr HPS.out)
  clear CW HWL HO HB2 hal hbn HT1 HPS hz2 hz3 HBX
  go_upto_region 4 with (fail)
  try rw [hw3]
  try simp only [hpb]
  clear hw3 hpb
  go_wp2_with fail
  refine CO.out.mono ?_
  rintro e w4 ⟨v, la4, lc4, rfl, HV4, HS4, HG4⟩
  have hT2 := HT2.out
  have hZ1 := HZ1.out
  obtain ⟨hZP, hZ3⟩ := HZP.out
  have hz4 := HG4.out.size
  have hal := below_alloc (Nat.le_refl w4.heap.size) (.cells #[.int .i64 v.k, .int .i64 v.a, .int .i64 v.b, .int .i64 v.c, .int .i64 v.d, .int .i64 v.x, .slice v.sa v.n v.cap] 83)
  have HS5 := Kp.mk (HS4.out.later hal)
  have HBX5 := Kp.mk ((box_grow HBX3.out HG4.out (fun e => by simp only [Option.some.injEq] at e; omega)).below hal)
  have HB5 := Kp.mk (show Below w1.heap.size w1 (w4.alloc (.cells #[.int .i64 v.k, .int .i64 v.a, .int .i64 v.b, .int .i64 v.c, .int .i64 v.d, .int .i64 v.x, .slice v.sa v.n v.cap] 83)) from (HB3.out.trans (below_of_grown HG4.out (by omega) (fun q e => by cases e; omega))).trans (hal.mono (by omega)))
  obtain ⟨w5, hw5⟩ : ∃ w5, w4.alloc (.cells #[.int .i64 v.k, .int .i64 v.a, .int .i64 v.b, .int .i64 v.c, .int .i64 v.d, .int .i64 v.x, .slice v.sa v.n v.cap] 83) = w5 := ⟨_, rfl⟩
  rw [hw5] at HS5 HBX5 HB5
  clear CO HS4 HG4 HBX3 HB3 hal HP
  go_upto_region 5 with (fail)
  try rw [hw5]
  clear hw5 hz4
  have k1 : w5.cell? ⟨pb, 1, none⟩ = some (.bool false) := HS5.out.box.cell 1 rfl
  have k0 : w5.cell? ⟨pb, 0, none⟩ = some (.slice la4 rest.length lc4) := HS5.out.box.cell 0 rfl
  have hrz : (0 : Int) < rest.length := by omega
  have hx0 := HBX5.out
  have b0 : w5.cell? ⟨t2, 0, none⟩ = some (.int .i64 0) := hx0.cell 0 rfl
  have b1 : w5.cell? ⟨t2, 1, none⟩ = some (.int .i64 0) := hx0.cell 1 rfl
  have b2 : w5.cell? ⟨t2, 2, none⟩ = some (.int .i64 0) := hx0.cell 2 rfl
  have b3 : w5.cell? ⟨t2, 3, none⟩ = some (.int .i64 0) := hx0.cell 3 rfl
  have b4 : w5.cell? ⟨t2, 4, none⟩ = some (.int .i64 0) := hx0.cell 4 rfl
  have b5 : w5.cell? ⟨t2, 5, none⟩ = some (.int .i64 0) := hx0.cell 5 rfl
  have b6 : w5.cell? ⟨t2, 6, none⟩ = some (.slice none 0 0) := hx0.cell 6 rfl
  have q0 := hx0.free 0
  have q1 := hx0.free 1
  have q2 := hx0.free 2
  have q3 := hx0.free 3
  have q4 := hx0.free 4
  have q5 := hx0.free 5
  have q6 := hx0.free 6
  have HX9 := Kp.mk (st7_box hx0 (.int .i64 0) (.int .i64 0) (.int .i64 0) (.int .i64 0) (.int .i64 0) (.int .i64 0) (.slice none 0 0))
  have hg9 := st7_grown w5 t2 (.int .i64 0) (.int .i64 0) (.int .i64 0) (.int .i64 0) (.int .i64 0) (.int .i64 0) (.slice none 0 0)
  have HB9 := Kp.mk (show Below w.heap.size w _ from (below_step HA.out HB5.out).trans (below_of_grown hg9 (by have := HB5.out.size; omega) (fun q e => by cases e; omega)))
  clear hx0 hg9 HB5 HBX5 HS5
  go_wp2
  clear b0 b1 b2 b3 b4 b5 b6 q0 q1 q2 q3 q4 q5 q6
  generalize (((((((w5.setCell ⟨t2, 0, none⟩ (.int .i64 0)).setCell ⟨t2, 1, none⟩ (.int .i64 0)).setCell ⟨t2, 2, none⟩ (.int .i64 0)).setCell ⟨t2, 3, none⟩ (.int .i64 0)).setCell ⟨t2, 4, none⟩ (.int .i64 0)).setCell ⟨t2, 5, none⟩ (.int .i64 0)).setCell ⟨t2, 6, none⟩ (.slice none 0 0)) = w9 at *
  have z0 : w9.cell? ⟨t2, 0, none⟩ = some (.int .i64 0) := HX9.out.cell 0 rfl
  have z1 : w9.cell? ⟨t2, 1, none⟩ = some (.int .i64 0) := HX9.out.cell 1 rfl
  have z2 : w9.cell? ⟨t2, 2, none⟩ = some (.int .i64 0) := HX9.out.cell 2 rfl
  have z3 : w9.cell? ⟨t2, 3, none⟩ = some (.int .i64 0) := HX9.out.cell 3 rfl
  have z4 : w9.cell? ⟨t2, 4, none⟩ = some (.int .i64 0) := HX9.out.cell 4 rfl
  have z5 : w9.cell? ⟨t2, 5, none⟩ = some (.int .i64 0) := HX9.out.cell 5 rfl
  have z6 : w9.cell? ⟨t2, 6, none⟩ = some (.slice none 0 0) := HX9.out.cell 6 rfl
  refine bodyPost_ret (v := .tuple #[.agg #[.int .i64 0, .int .i64 0, .int .i64 0, .int .i64 0, .int .i64 0, .int .i64 0, .slice none 0 0], .int .i64 10]) (by simp [results, Tryz.results42, go_sem, z0, z1, z2, z3, z4, z5, z6]) rfl ?_
  exact ⟨rfl, HB9⟩

end Go.Proofs.YtedchegejalolaaGreatDoor

/- The texts that are refused. -/
namespace Go.Proofs.YtedchegejalolaaGreatDoor
set_option linter.unusedVariables false
open Go.RowKit Qk

set_option maxRecDepth 100000 in
set_option maxHeartbeats 16000000 in
theorem one_w_bad (w0 : World) : BadC w0 119 [[119]] := by
  have hH : True := trivial
  intro w pb lc la h
  have hpb : pb < w.heap.size := h.box.lt
  have hw0 := h.bel.size
  have ha := below_alloc (Nat.le_refl w.heap.size) (.cells #[.int .i64 0, .int .i64 0, .int .i64 0, .int .i64 0, .int .i64 0, .int .i64 0, .slice none 0 0] 83)
  have HBX := Kp.mk (Box.new w #[.int .i64 0, .int .i64 0, .int .i64 0, .int .i64 0, .int .i64 0, .int .i64 0, .slice none 0 0] 83)
  obtain ⟨t2, ht2⟩ : ∃ t2, w.heap.size = t2 := ⟨_, rfl⟩
  have HA := Kp.mk ha
  obtain ⟨w1, hw1⟩ : ∃ w1, w.alloc (.cells #[.int .i64 0, .int .i64 0, .int .i64 0, .int .i64 0, .int .i64 0, .int .i64 0, .slice none 0 0] 83) = w1 := ⟨_, rfl⟩
  have hz1 : w1.heap.size = t2 + 1 := by rw [← hw1, alloc_size, ht2]
  have hsl := h.later ha
  rw [hw1] at HA HBX hsl
  rw [ht2] at HBX
  have HS1 := Kp.mk (show PS w0 w1 pb la lc ([[119]]) from by simpa using hsl)
  have HZ1 := Kp.mk hz1
  have HT2 := Kp.mk ht2
  have HH := Kp.mk hH
  have k1 : w1.cell? ⟨pb, 1, none⟩ = some (.bool false) := HS1.out.box.cell 1 rfl
  clear hH h ha hz1 hsl
  go_enter Tryz.func119, Tryz.ntmps119
  go_upto_region 3 with (fail)
  clear hw1 ht2
  have CT0 := Kp.mk (takes_no w0 w1 pb la lc [33] ([[119]]) HS1.out (by simp))
  go_wp2_with fail
  refine CT0.out.mono ?_
  rintro e w2 ⟨rfl, HS2, HB2⟩
  clear CT0
  have CT1 := Kp.mk (takes_no w0 w2 pb la lc [40] ([[119]]) HS2.out (by simp))
  go_wp2_with fail
  refine CT1.out.mono ?_
  rintro e w3 ⟨rfl, HS3, HB3⟩
  clear CT1
  have CT2 := Kp.mk (takes_no w0 w3 pb la lc [105, 110] ([[119]]) HS3.out (by simp))
  go_wp2_with fail
  refine CT2.out.mono ?_
  rintro e w4 ⟨rfl, HS4, HB4⟩
  clear CT2
  have HG14 := Kp.mk (show w1.grownBy w4 (some pb) from grown_trans (grown_trans (grown_of_below HB2.out) (grown_of_below HB3.out)) (grown_of_below HB4.out))
  have CT := Kp.mk (takes_yes w0 w4 pb la lc [119] [] HS4.out)
  clear HS1 HS2 HS3 HS4 HB2 HB3 HB4 k1
  go_wp2_with fail
  refine CT.out.mono ?_
  rintro e w5 ⟨la5, lc5, rfl, HS5, HG5⟩
  have CN := Kp.mk (number_none w0 w5 pb lc5 la5 HS5.out)
  clear CT
  go_wp2_with fail
  refine CN.out.mono ?_
  rintro e w6 ⟨rfl, HS6, HG6⟩
  have hT2 := HT2.out
  have hZ1 := HZ1.out
  have HG16 := Kp.mk (show w1.grownBy w6 (some pb) from grown_trans (grown_trans HG14.out HG5.out) HG6.out)
  have hz16 := HG16.out.size
  have HBX6 := Kp.mk (box_grow HBX.out HG16.out (fun e => by simp only [Option.some.injEq] at e; omega))
  have hx6 := HBX6.out
  have b0 : w6.cell? ⟨t2, 0, none⟩ = some (.int .i64 0) := hx6.cell 0 rfl
  have b1 : w6.cell? ⟨t2, 1, none⟩ = some (.int .i64 0) := hx6.cell 1 rfl
  have b2 : w6.cell? ⟨t2, 2, none⟩ = some (.int .i64 0) := hx6.cell 2 rfl
  have b3 : w6.cell? ⟨t2, 3, none⟩ = some (.int .i64 0) := hx6.cell 3 rfl
  have b4 : w6.cell? ⟨t2, 4, none⟩ = some (.int .i64 0) := hx6.cell 4 rfl
  have b5 : w6.cell? ⟨t2, 5, none⟩ = some (.int .i64 0) := hx6.cell 5 rfl
  have b6 : w6.cell? ⟨t2, 6, none⟩ = some (.slice none 0 0) := hx6.cell 6 rfl
  have q0 := hx6.free 0
  have q1 := hx6.free 1
  have q2 := hx6.free 2
  have q3 := hx6.free 3
  have q4 := hx6.free 4
  have q5 := hx6.free 5
  have q6 := hx6.free 6
  have HX7 := Kp.mk (show Box ((w6.setCell ⟨t2, 0, none⟩ (.int .i64 2)).setCell ⟨t2, 5, none⟩ (.int .i64 0)) t2 #[.int .i64 2, .int .i64 0, .int .i64 0, .int .i64 0, .int .i64 0, .int .i64 0, .slice none 0 0] 83 from by
    have := box_put (i := 5) (box_put (i := 0) hx6 (.int .i64 2)) (.int .i64 0)
    simpa using this)
  have hg7 := grown_trans (grown_set w6 t2 0 (.int .i64 2)) (grown_set (w6.setCell ⟨t2, 0, none⟩ (.int .i64 2)) t2 5 (.int .i64 0))
  have HS7 := Kp.mk (HS6.out.keep hg7 (fun k e => by cases e; exact ⟨by omega, by omega⟩))
  have HG7 := Kp.mk (show w.grownBy _ (some pb) from qgrown_step (grown_trans (grown_of_below HA.out) HG16.out) hg7 (fun q e => .inl (by cases e; rw [hT2]; exact Nat.le_refl _)))
  clear hx6 hg7 CN HBX6 HBX HS5 HG5 HS6 HG6 HG14 HG16
  go_upto_region 17 with (fail)
  clear b0 b1 b2 b3 b4 b5 b6 q0 q1 q2 q3 q4 q5 q6
  generalize (w6.setCell ⟨t2, 0, none⟩ (.int .i64 2)).setCell ⟨t2, 5, none⟩ (.int .i64 0) = w7 at *
  have hx0 := HX7.out
  have b0 : w7.cell? ⟨t2, 0, none⟩ = some (.int .i64 2) := hx0.cell 0 rfl
  have b1 : w7.cell? ⟨t2, 1, none⟩ = some (.int .i64 0) := hx0.cell 1 rfl
  have b2 : w7.cell? ⟨t2, 2, none⟩ = some (.int .i64 0) := hx0.cell 2 rfl
  have b3 : w7.cell? ⟨t2, 3, none⟩ = some (.int .i64 0) := hx0.cell 3 rfl
  have b4 : w7.cell? ⟨t2, 4, none⟩ = some (.int .i64 0) := hx0.cell 4 rfl
  have b5 : w7.cell? ⟨t2, 5, none⟩ = some (.int .i64 0) := hx0.cell 5 rfl
  have b6 : w7.cell? ⟨t2, 6, none⟩ = some (.slice none 0 0) := hx0.cell 6 rfl
  have q0 := hx0.free 0
  have q1 := hx0.free 1
  have q2 := hx0.free 2
  have q3 := hx0.free 3
  have q4 := hx0.free 4
  have q5 := hx0.free 5
  have q6 := hx0.free 6
  have HX9 := Kp.mk (st7_box hx0 (.int .i64 2) (.int .i64 0) (.int .i64 0) (.int .i64 0) (.int .i64 0) (.int .i64 0) (.slice none 0 0))
  have hg9 := st7_grown w7 t2 (.int .i64 2) (.int .i64 0) (.int .i64 0) (.int .i64 0) (.int .i64 0) (.int .i64 0) (.slice none 0 0)
  have HS9 := Kp.mk (HS7.out.keep hg9 (fun k e => by cases e; exact ⟨by omega, by omega⟩))
  have HG9 := Kp.mk (show w.grownBy _ (some pb) from qgrown_step HG7.out hg9 (fun q e => .inl (by cases e; rw [hT2]; exact Nat.le_refl _)))
  clear hx0 hg9 HX7 HS7 HG7
  go_wp2
  clear b0 b1 b2 b3 b4 b5 b6 q0 q1 q2 q3 q4 q5 q6
  generalize (((((((w7.setCell ⟨t2, 0, none⟩ (.int .i64 2)).setCell ⟨t2, 1, none⟩ (.int .i64 0)).setCell ⟨t2, 2, none⟩ (.int .i64 0)).setCell ⟨t2, 3, none⟩ (.int .i64 0)).setCell ⟨t2, 4, none⟩ (.int .i64 0)).setCell ⟨t2, 5, none⟩ (.int .i64 0)).setCell ⟨t2, 6, none⟩ (.slice none 0 0)) = w9 at *
  have z0 : w9.cell? ⟨t2, 0, none⟩ = some (.int .i64 2) := HX9.out.cell 0 rfl
  have z1 : w9.cell? ⟨t2, 1, none⟩ = some (.int .i64 0) := HX9.out.cell 1 rfl
  have z2 : w9.cell? ⟨t2, 2, none⟩ = some (.int .i64 0) := HX9.out.cell 2 rfl
  have z3 : w9.cell? ⟨t2, 3, none⟩ = some (.int .i64 0) := HX9.out.cell 3 rfl
  have z4 : w9.cell? ⟨t2, 4, none⟩ = some (.int .i64 0) := HX9.out.cell 4 rfl
  have z5 : w9.cell? ⟨t2, 5, none⟩ = some (.int .i64 0) := HX9.out.cell 5 rfl
  have z6 : w9.cell? ⟨t2, 6, none⟩ = some (.slice none 0 0) := HX9.out.cell 6 rfl
  refine bodyPost_ret (v := .agg #[.int .i64 2, .int .i64 0, .int .i64 0, .int .i64 0, .int .i64 0, .int .i64 0, .slice none 0 0]) (by simp [results, Tryz.results119, go_sem, z0, z1, z2, z3, z4, z5, z6]) rfl ?_
  exact ⟨⟨2, 0, 0, 0, 0, 0, none, 0, 0⟩, rfl, HS9, HG9⟩

theorem bad_w (w0 : World) : BadC w0 64 [[119]] := or_bad w0 _ (and_bad w0 _ (one_w_bad w0))
/-- "w" is refused. -/
theorem parse_w (w : World) (hT : Tab w) : Calls Tryz.prog 42 #[str [119]] w fun e w' => e = .returned (.tuple #[.agg #[.int .i64 0, .int .i64 0, .int .i64 0, .int .i64 0, .int .i64 0, .int .i64 0, .slice none 0 0], .int .i64 10]) ∧ Kp (Below w.heap.size w w') :=
  parse_bad [119] 1 rfl (by omega) (fun w0 => by rw [show wordsF [119] = [[119]] by decide]; exact bad_w w0) w hT
theorem words_five : wordsF [105, 110, 32, 49, 32, 50, 32, 51, 32, 52, 32, 53] = [[105, 110], Lib.itoa 1, Lib.itoa 2, Lib.itoa 3, Lib.itoa 4] ++ [[53]] := by
  have h : ∀ u : Nat, u < 10 → Lib.itoa (u : Int) = [UInt8.ofNat (48 + u)] := fun u hu => by rw [Lib.itoa_nonneg, Lib.decDigits_one hu]
  rw [show (1 : Int) = ((1 : Nat) : Int) from rfl, show (2 : Int) = ((2 : Nat) : Int) from rfl, show (3 : Int) = ((3 : Nat) : Int) from rfl, show (4 : Int) = ((4 : Nat) : Int) from rfl, h 1 (by omega), h 2 (by omega), h 3 (by omega), h 4 (by omega)]
  decide
/-- "in 1 2 3 4 5" is refused. -/
theorem parse_five (w : World) (hT : Tab w) : Calls Tryz.prog 42 #[str [105, 110, 32, 49, 32, 50, 32, 51, 32, 52, 32, 53]] w fun e w' => e = .returned (.tuple #[.agg #[.int .i64 0, .int .i64 0, .int .i64 0, .int .i64 0, .int .i64 0, .int .i64 0, .slice none 0 0], .int .i64 10]) ∧ Kp (Below w.heap.size w w') :=
  parse_left _ 12 rfl (by omega) [[105, 110], Lib.itoa 1, Lib.itoa 2, Lib.itoa 3, Lib.itoa 4] [[53]] (.inn 1 2 3 4) words_five (fun u hu => by simp only [List.head?_cons, Option.some.injEq] at hu; subst hu; unfold stopO; decide) (by simp) (fun w0 => (Parsed.of_one (x := .inn 1 2 3 4) (one_in w0 1 2 3 4 (by omega) (by omega) (by omega) (by omega) (by omega) (by omega) (by omega) (by omega) noStop)).or) w hT

end Go.Proofs.YtedchegejalolaaGreatDoor

/- desk: the commands. -/
namespace Go.Proofs.YtedchegejalolaaGreatDoor.Dk
set_option linter.unusedVariables false
open Go.RowKit Qk

theorem runs_alone (k : Nat) (c : Cmd) (f : FuncId) (j : Nat) (hf : ∀ db W, (Instr.findKey 9 (str c.t) (aloneM db)).run Tryz.prog W = .ok (some (j, fnV f db)) W) (eg : ∀ args w, (callFunc f args).run Tryz.prog w = .ok (.enter f args) w)
    (C : ∀ (L : List Pt) (B db pc : Nat) (pa : Option Addr) (W : World), Fit k L → DS W B db pa pc L → B ≤ W.heap.size → (∀ W', Below B W W' → Tab W') → Calls Tryz.prog f #[.pointer (some ⟨db, 0, none⟩)] W fun e w' => ∃ (pa' : Option Addr) (pc' : Nat), e = .returned (str (c.ans L)) ∧ Kp (Out B db pa W w' (c.nxt L) pa' pc')) : Runs k c := by
  intro L B db pc pa w hfit hD hB hT hBig
  refine (line_alone db c.t f j (hf db) eg (c.ans L) (fun W w' => ∃ pa' pc', Kp (Out B db pa W w' (c.nxt L) pa' pc')) w (fun W hW => (C L B db pc pa W hfit (hD.below hW) (Nat.le_trans hB hW.size) (fun W2 h2 => hT W2 ((hW.mono hB).trans h2))).mono (fun e w' ⟨pa', pc', he, ho⟩ => ⟨he, pa', pc', ho⟩))).mono ?_
  rintro e w' ⟨rfl, W, hW, pa', pc', HO⟩
  exact ⟨pa', pc', rfl, ⟨HO.out.later hW⟩⟩
theorem runs_with (k : Nat) (c : Cmd) (word args : Wd) (ht : c.t = word ++ 32 :: args) (h32 : (32 : UInt8) ∉ word) (hlen : word.length + args.length ≤ 1000) (f : FuncId) (j : Nat) (hf : ∀ db W, (Instr.findKey 9 (str word) (withM db)).run Tryz.prog W = .ok (some (j, fnV f db)) W) (eg : ∀ args w, (callFunc f args).run Tryz.prog w = .ok (.enter f args) w)
    (C : ∀ (L : List Pt) (B db pc : Nat) (pa : Option Addr) (W : World), Fit k L → DS W B db pa pc L → B ≤ W.heap.size → (∀ W', Below B W W' → Tab W') → Big W → Calls Tryz.prog f #[.pointer (some ⟨db, 0, none⟩), str args] W fun e w' => ∃ (pa' : Option Addr) (pc' : Nat), e = .returned (str (c.ans L)) ∧ Kp (Out B db pa W w' (c.nxt L) pa' pc')) : Runs k c := by
  intro L B db pc pa w hfit hD hB hT hBig
  rw [ht]
  refine (line_with db word args h32 hlen f j (hf db) eg (c.ans L) (fun W w' => ∃ pa' pc', Kp (Out B db pa W w' (c.nxt L) pa' pc')) w (hBig w (Below.refl _ _)) (fun W hW => (C L B db pc pa W hfit (hD.below hW) (Nat.le_trans hB hW.size) (fun W2 h2 => hT W2 ((hW.mono hB).trans h2)) (hBig W (hW.mono hB))).mono (fun e w' ⟨pa', pc', he, ho⟩ => ⟨he, pa', pc', ho⟩))).mono ?_
  rintro e w' ⟨rfl, W, hW, pa', pc', HO⟩
  exact ⟨pa', pc', rfl, ⟨HO.out.later hW⟩⟩
theorem same_of {f : FuncId} {args : Array Value} {B db pc : Nat} {pa : Option Addr} {W : World} {L : List Pt} {s : Wd} (hD : DS W B db pa pc L) (h : Calls Tryz.prog f args W fun e w' => e = .returned (str s) ∧ Kp (Below W.heap.size W w')) : Calls Tryz.prog f args W fun e w' => ∃ (pa' : Option Addr) (pc' : Nat), e = .returned (str s) ∧ Kp (Out B db pa W w' L pa' pc') :=
  h.mono fun e w' ⟨he, hb⟩ => ⟨pa, pc, he, ⟨Out.same hD hb.out⟩⟩
theorem eg_drop : ∀ args w, (callFunc 20 args).run Tryz.prog w = .ok (.enter 20 args) w := enters_of Tryz.func20 (by kernel_rfl) rfl
theorem eg_sky : ∀ args w, (callFunc 21 args).run Tryz.prog w = .ok (.enter 21 args) w := enters_of Tryz.func21 (by kernel_rfl) rfl
theorem eg_area : ∀ args w, (callFunc 22 args).run Tryz.prog w = .ok (.enter 22 args) w := enters_of Tryz.func22 (by kernel_rfl) rfl
theorem eg_save : ∀ args w, (callFunc 23 args).run Tryz.prog w = .ok (.enter 23 args) w := enters_of Tryz.func23 (by kernel_rfl) rfl
theorem eg_put : ∀ args w, (callFunc 25 args).run Tryz.prog w = .ok (.enter 25 args) w := enters_of Tryz.func25 (by kernel_rfl) rfl
theorem eg_ask : ∀ args w, (callFunc 26 args).run Tryz.prog w = .ok (.enter 26 args) w := enters_of Tryz.func26 (by kernel_rfl) rfl
theorem eg_count : ∀ args w, (callFunc 27 args).run Tryz.prog w = .ok (.enter 27 args) w := enters_of Tryz.func27 (by kernel_rfl) rfl
theorem eg_load : ∀ args w, (callFunc 28 args).run Tryz.prog w = .ok (.enter 28 args) w := enters_of Tryz.func28 (by kernel_rfl) rfl
theorem hf_drop : ∀ db W, (Instr.findKey 9 (str dropK) (aloneM db)).run Tryz.prog W = .ok (some (0, fnV 20 db)) W := fun db W => by kernel_rfl
theorem hf_sky : ∀ db W, (Instr.findKey 9 (str skyK) (aloneM db)).run Tryz.prog W = .ok (some (1, fnV 21 db)) W := fun db W => by kernel_rfl
theorem hf_area : ∀ db W, (Instr.findKey 9 (str areaK) (aloneM db)).run Tryz.prog W = .ok (some (2, fnV 22 db)) W := fun db W => by kernel_rfl
theorem hf_save : ∀ db W, (Instr.findKey 9 (str saveK) (aloneM db)).run Tryz.prog W = .ok (some (3, fnV 23 db)) W := fun db W => by kernel_rfl
theorem hf_put : ∀ db W, (Instr.findKey 9 (str putK) (withM db)).run Tryz.prog W = .ok (some (0, fnV 25 db)) W := fun db W => by kernel_rfl
theorem hf_ask : ∀ db W, (Instr.findKey 9 (str askK) (withM db)).run Tryz.prog W = .ok (some (1, fnV 26 db)) W := fun db W => by kernel_rfl
theorem hf_count : ∀ db W, (Instr.findKey 9 (str countK) (withM db)).run Tryz.prog W = .ok (some (2, fnV 27 db)) W := fun db W => by kernel_rfl
theorem hf_load : ∀ db W, (Instr.findKey 9 (str loadK) (withM db)).run Tryz.prog W = .ok (some (3, fnV 28 db)) W := fun db W => by kernel_rfl

theorem Fit.weak {k : Nat} {L : List Pt} (h : Fit k L) : Fit (k + 1) L := ⟨Nat.le_succ_of_le h.1, h.2⟩
theorem Fit.le {k : Nat} {L : List Pt} (h : Fit k L) (hk : k ≤ 60) : L.length ≤ 80 := by have := h.1; omega

/-- put -/
def putC (x y v : Int) : Cmd := ⟨putK ++ 32 :: joinC 32 [Lib.itoa x, Lib.itoa y, Lib.itoa v], fun L => toldT okW [(L.length : Int)], fun L => L ++ [⟨x, y, v⟩]⟩
theorem mem3 {c : UInt8} {a b d : Wd} (h : c ∈ joinC 32 [a, b, d]) : c = 32 ∨ c ∈ a ∨ c ∈ b ∨ c ∈ d := by
  simp only [joinC, List.mem_append, List.mem_cons] at h
  rcases h with h | h | h | h | h
  · exact .inr (.inl h)
  · exact .inl h
  · exact .inr (.inr (.inl h))
  · exact .inl h
  · exact .inr (.inr (.inr h))
theorem put_ok {x y v : Int} (hx : Num3 x) (hy : Num3 y) (hv : Num3 v) : (putC x y v).Ok where
  nl := fun h => by
    rcases List.mem_append.1 h with h | h
    · revert h; decide
    · rcases List.mem_cons.1 h with h | h
      · revert h; decide
      · rcases mem3 h with h | h | h | h
        · revert h; decide
        · exact hx.no10 h
        · exact hy.no10 h
        · exact hv.no10 h
  len := by
    have h1 := hx.len
    have h2 := hy.len
    have h3 := hv.len
    simp only [putC, joinC, putK, List.length_append, List.length_cons, List.length_nil]; omega
  fit := fun k L _ h => ⟨by have := h.1; simp only [putC, List.length_append, List.length_singleton]; omega, fun p hp => by
    rcases List.mem_append.1 hp with hp | hp
    · exact h.2 p hp
    · rw [List.mem_singleton.1 hp]
      have a := hx.near
      have b := hy.near
      have c := hv.near
      unfold Pt.Near
      dsimp only
      omega⟩
  alen := fun k L hk h => by
    have := h.le hk
    refine Nat.le_trans (toldT_len okW _ (fun z hz => by rw [List.mem_singleton.1 hz]; omega)) ?_
    show 2 + 22 * 1 ≤ 10000; omega
  runs := fun k hk => runs_with k _ putK _ rfl (by decide) (by
      have h1 := hx.len
      have h2 := hy.len
      have h3 := hv.len
      simp only [joinC, putK, List.length_append, List.length_cons, List.length_nil]; omega) _ 0 hf_put eg_put (fun L B db pc pa W hfit hD hB hT hBig => by
    have := hfit.le hk
    exact put_any B db pc pa L _ _ _ x y v hx.num hy.num hv.num (fun t ht => by
      simp only [List.mem_cons, List.not_mem_nil, or_false] at ht
      rcases ht with rfl | rfl | rfl
      · exact hx.no32
      · exact hy.no32
      · exact hv.no32) W hD (by omega) hB hT hBig)

/-- drop -/
def dropC : Cmd := ⟨dropK, fun L => if L.length = 0 then noneW else okW, fun L => L.dropLast⟩
theorem drop_ok : dropC.Ok where
  nl := by decide
  len := by decide
  fit := fun k L _ h => ⟨by have := h.1; simp only [dropC, List.length_dropLast]; omega, fun p hp => h.2 p ((List.dropLast_sublist L).subset hp)⟩
  alen := fun k L hk h => by
    simp only [dropC]
    split
    · decide
    · decide
  runs := fun k hk => runs_alone k _ _ 0 hf_drop eg_drop (fun L B db pc pa W hfit hD hB hT => drop_any B db pc pa L W hD)
/-- sky -/
noncomputable def skyC : Cmd := ⟨skyK, fun L => toldT idsW (skyG L), fun L => L⟩
theorem sky_ok : skyC.Ok where
  nl := by show (10 : UInt8) ∉ skyK; decide
  len := by show skyK.length ≤ 400; decide
  fit := fun k L _ h => h.weak
  alen := fun k L hk h => by
    have h1 := h.le hk
    obtain ⟨b1, b2⟩ := skyG_bd L
    refine Nat.le_trans (toldT_len idsW (skyG L) (fun z hz => by have := b2 z hz; omega)) ?_
    show 3 + 22 * (skyG L).length ≤ 10000
    omega
  runs := fun k hk => runs_alone k _ _ 1 hf_sky eg_sky (fun L B db pc pa W hfit hD hB hT => by
    have h1 := hfit.le hk
    exact same_of hD (dsky_any B db pc pa L W hD (by omega) hfit.2 (hT W (Below.refl _ _))))
/-- area -/
noncomputable def areaC : Cmd := ⟨areaK, areaT, fun L => L⟩
theorem area_ok : areaC.Ok where
  nl := by show (10 : UInt8) ∉ areaK; decide
  len := by show areaK.length ≤ 400; decide
  fit := fun k L _ h => h.weak
  alen := fun k L hk h => by
    show (areaT L).length ≤ 10000
    unfold areaT
    split
    · decide
    · have hb := areaG_bd L
      refine Nat.le_trans (toldT_len areaW [areaG L] (fun z hz => by rw [List.mem_singleton.1 hz]; omega)) ?_
      show 4 + 22 * 1 ≤ 10000; omega
  runs := fun k hk => runs_alone k _ _ 2 hf_area eg_area (fun L B db pc pa W hfit hD hB hT => by
    have h1 := hfit.le hk
    exact same_of hD (area_any B db pc pa L W hD (by omega) hfit.2 (hT W (Below.refl _ _))))
/-- save -/
theorem putL_len3 {n : Nat} (h : n < 268435456) : (putL n).length ≤ 4 := by
  by_cases h1 : n < 128
  · rw [putL_small h1]; simp
  · rw [putL_big h1, List.length_cons]
    by_cases h2 : n / 128 < 128
    · rw [putL_small h2]; simp
    · rw [putL_big h2, List.length_cons]
      by_cases h3 : n / 128 / 128 < 128
      · rw [putL_small h3]; simp
      · rw [putL_big h3, List.length_cons, putL_small (by omega)]; simp
theorem saveL_le {L : List Pt} (hN : ∀ p ∈ L, p.Near) (hl : L.length ≤ 100) : (saveL L).length ≤ 1300 := by
  have h1 : ∀ L : List Pt, (∀ p ∈ L, p.Near) → (encN (numsP L)).length ≤ 12 * L.length := by
    intro L
    induction L with
    | nil => intro _; simp [numsP, encN]
    | cons p L ih =>
      intro h
      have e : numsP (p :: L) = [foldN p.x, foldN p.y, foldN p.w] ++ numsP L := by simp [numsP]
      have hp := h p (by simp)
      unfold Pt.Near at hp
      have i1 := ih (fun q hq => h q (by simp [hq]))
      have a := putL_len3 (foldN_lt p.x (by omega) (by omega))
      have b := putL_len3 (foldN_lt p.y (by omega) (by omega))
      have c := putL_len3 (foldN_lt p.w (by omega) (by omega))
      have e2 : encN [foldN p.x, foldN p.y, foldN p.w] = putL (foldN p.x) ++ (putL (foldN p.y) ++ (putL (foldN p.w) ++ [])) := by simp [encN]
      rw [e, encN_append, e2, List.length_append, List.length_append, List.length_append, List.length_append, List.length_cons]
      simp only [List.length_nil]
      omega
  have h2 := h1 L hN
  have h3 := putL_len3 (n := L.length) (by omega)
  have h4 : headL.length = 4 := rfl
  rw [saveL_len, encI_nums, List.length_append, List.length_append]
  omega
def saveC : Cmd := ⟨saveK, saveT, fun L => L⟩
theorem save_ok : saveC.Ok where
  nl := by decide
  len := by decide
  fit := fun k L _ h => h.weak
  alen := fun k L hk h => by
    have h1 := h.le hk
    have h2 := saveL_le h.2 (by omega)
    show (imageW ++ hexT (saveL L)).length ≤ 10000
    rw [List.length_append, hexT_length]
    show 6 + _ ≤ 10000
    omega
  runs := fun k hk => runs_alone k _ _ 3 hf_save eg_save (fun L B db pc pa W hfit hD hB hT => by
    have h1 := hfit.le hk
    exact same_of hD (dsave_any B db pc pa L W hD (by omega) hfit.2))
/-- count -/
def countC (a b c d : Int) : Cmd := ⟨countK ++ 32 :: joinC 32 [Lib.itoa a, Lib.itoa b, Lib.itoa c, Lib.itoa d], fun L => toldT nW [(cntR L a b c d : Int)], fun L => L⟩
theorem mem4 {x : UInt8} {a b c d : Wd} (h : x ∈ joinC 32 [a, b, c, d]) : x = 32 ∨ x ∈ a ∨ x ∈ b ∨ x ∈ c ∨ x ∈ d := by
  simp only [joinC, List.mem_append, List.mem_cons] at h
  rcases h with h | h | h | h | h | h | h
  · exact .inr (.inl h)
  · exact .inl h
  · exact .inr (.inr (.inl h))
  · exact .inl h
  · exact .inr (.inr (.inr (.inl h)))
  · exact .inl h
  · exact .inr (.inr (.inr (.inr h)))
theorem count_ok {a b c d : Int} (ha : Num3 a) (hb : Num3 b) (hc : Num3 c) (hd : Num3 d) : (countC a b c d).Ok where
  nl := fun h => by
    rcases List.mem_append.1 h with h | h
    · revert h; decide
    · rcases List.mem_cons.1 h with h | h
      · revert h; decide
      · rcases mem4 h with h | h | h | h | h
        · revert h; decide
        · exact ha.no10 h
        · exact hb.no10 h
        · exact hc.no10 h
        · exact hd.no10 h
  len := by
    have h1 := ha.len
    have h2 := hb.len
    have h3 := hc.len
    have h4 := hd.len
    simp only [countC, joinC, countK, List.length_append, List.length_cons, List.length_nil]; omega
  fit := fun k L _ h => h.weak
  alen := fun k L hk h => by
    have h1 := h.le hk
    have h2 : cntR L a b c d ≤ L.length := by unfold cntR; exact List.countP_le_length
    refine Nat.le_trans (toldT_len nW _ (fun z hz => by rw [List.mem_singleton.1 hz]; omega)) ?_
    show 1 + 22 * 1 ≤ 10000; omega
  runs := fun k hk => runs_with k _ countK _ rfl (by decide) (by
      have h1 := ha.len
      have h2 := hb.len
      have h3 := hc.len
      have h4 := hd.len
      simp only [joinC, countK, List.length_append, List.length_cons, List.length_nil]; omega) _ 2 hf_count eg_count (fun L B db pc pa W hfit hD hB hT hBig => by
    have h1 := hfit.le hk
    exact same_of hD (count_any B db pc pa L _ _ _ _ a b c d ha.num hb.num hc.num hd.num (fun t ht => by
      simp only [List.mem_cons, List.not_mem_nil, or_false] at ht
      rcases ht with rfl | rfl | rfl | rfl
      · exact ha.no32
      · exact hb.no32
      · exact hc.no32
      · exact hd.no32) W hD (by omega) hfit.2 (hT W (Below.refl _ _)) hBig))
/-- ask -/
def askC (x : Ex) : Cmd := ⟨askK ++ 32 :: x.txt, askT x, fun L => L⟩
theorem ask_ok {x : Ex} (hs : x.small) (hd : x.dep ≤ 2) (hn : (10 : UInt8) ∉ x.txt) : (askC x).Ok where
  nl := fun h => by
    rcases List.mem_append.1 h with h | h
    · revert h; decide
    · rcases List.mem_cons.1 h with h | h
      · revert h; decide
      · exact hn h
  len := by
    have h1 := Ex.txt_len x 2 hs hd
    have e : Ex.bnd 2 = 54 := by decide
    simp only [askC, askK, List.length_append, List.length_cons, List.length_nil]; omega
  fit := fun k L _ h => h.weak
  alen := fun k L hk h => by
    have h1 := h.le hk
    have h2 := evalL_len (x.sem L) L.length
    refine Nat.le_trans (toldT_len idsW _ (fun z hz => by have := eval_bd _ _ z hz; omega)) ?_
    show 3 + 22 * (List.map Int.ofNat (evalL (x.sem L) L.length)).length ≤ 10000
    rw [List.length_map]; omega
  runs := fun k hk => by
    have h1 := Ex.txt_len x 2 hs hd
    have e : Ex.bnd 2 = 54 := by decide
    exact runs_with k _ askK _ rfl (by decide) (by simp only [askK, List.length_cons, List.length_nil]; omega) _ 1 hf_ask eg_ask (fun L B db pc pa W hfit hD hB hT hBig => by
      have h2 := hfit.le hk
      exact same_of hD (ask_any B db pc pa L x.txt x hs (by omega) (by omega) (fun w0 => by rw [words_txt hs]; exact (parsed w0 x hs).or) (by omega) W hD (by omega) hfit.2 (hT W (Below.refl _ _))))
/-- What is bad. -/
def badC (t : Wd) : Cmd := ⟨t, fun _ => bad, fun L => L⟩
theorem bad_ok {t : Wd} (hn : (10 : UInt8) ∉ t) (hl : t.length ≤ 400) (hr : ∀ k, k ≤ 60 → Runs k (badC t)) : (badC t).Ok where
  nl := hn
  len := hl
  fit := fun k L _ h => h.weak
  alen := fun k L hk h => by show bad.length ≤ 10000; decide
  runs := hr
theorem bad_line {t : Wd} (word args : Wd) (b : Bool) (hcut : Lib.cut t [32] = (word, args, b)) (hl : t.length ≤ 400) (hn : (10 : UInt8) ∉ t) (h1 : t ≠ dropK ∧ t ≠ skyK ∧ t ≠ areaK ∧ t ≠ saveK) (h2 : word ≠ putK ∧ word ≠ askK ∧ word ≠ countK ∧ word ≠ loadK) : (badC t).Ok :=
  bad_ok hn hl (fun k hk L B db pc pa w hfit hD hB hT hBig => same_of hD ((line_bad db t word args b hcut (by omega) h1 h2 w (hBig w (Below.refl _ _))).mono fun e w' ⟨he, hb⟩ => ⟨he, ⟨hb⟩⟩))
theorem bad_with {t : Wd} (word args : Wd) (ht : t = word ++ 32 :: args) (h32 : (32 : UInt8) ∉ word) (hlen : word.length + args.length ≤ 300) (hn : (10 : UInt8) ∉ t) (f : FuncId) (j : Nat) (hf : ∀ db W, (Instr.findKey 9 (str word) (withM db)).run Tryz.prog W = .ok (some (j, fnV f db)) W) (eg : ∀ args w, (callFunc f args).run Tryz.prog w = .ok (.enter f args) w)
    (C : ∀ (db : Nat) (W : World), Tab W → Big W → Calls Tryz.prog f #[.pointer (some ⟨db, 0, none⟩), str args] W fun e w' => e = .returned (str bad) ∧ Below W.heap.size W w') : (badC t).Ok :=
  bad_ok hn (by rw [ht, List.length_append, List.length_cons]; omega) (fun k hk => runs_with k _ word args ht h32 (by omega) f j hf eg (fun L B db pc pa W hfit hD hB hT hBig => same_of hD ((C db W (hT W (Below.refl _ _)) hBig).mono fun e w' ⟨he, hb⟩ => ⟨he, ⟨hb⟩⟩)))

end Go.Proofs.YtedchegejalolaaGreatDoor.Dk


/- near.grow: its comparison, and the sorting of a part of a row. -/
import Derived.Test.YtlmdlholmlbcbaaNrT
import Derived.Test.YtlmdlholmlbcbaaOr2
import Derived.Test.YtlmdlholmlbcbaaShelf
namespace Go.Proofs.Ytlmdlholmlbcbaa
set_option linter.unusedVariables false
open Go.RowKit Go.Sort
open Hp (KT KD)

/-- A world that has drawn and grown, no more. -/
structure Gro (w0 : World) where
  val : World
  is_ : ∃ q os, val = grow (w0.drewN q) os
instance (w0 : World) : Nonempty (Gro w0) := ⟨⟨w0, 0, #[], by simp [grow, World.drewN]⟩⟩
theorem gro_trans {w0 w1 w2 : World} (h : ∃ q os, w1 = grow (w0.drewN q) os) (k : ∃ q os, w2 = grow (w1.drewN q) os) : ∃ q os, w2 = grow (w0.drewN q) os := by
  obtain ⟨q, os, rfl⟩ := h
  obtain ⟨q', os', rfl⟩ := k
  refine ⟨q + q', os ++ os', ?_⟩
  have : (grow (w0.drewN q) os).drewN q' = grow (w0.drewN (q + q')) os := by
    rw [← World.drewN_drewN]; rfl
  rw [this, grow_grow]
theorem gro_cell {w0 : World} {b o : Nat} {v : Value} (h : w0.cell? ⟨b, o, none⟩ = some v) : ∀ x : Gro w0, x.val.cell? ⟨b, o, none⟩ = some v := fun x => by
  obtain ⟨q, os, e⟩ := x.is_
  rw [e, (grow_below w0 q os).cell (p := ⟨b, o, none⟩) (World.block_lt_of_cell? w0 _ h)]; exact h
theorem q_gro {P : Program} {f : FuncId} {args : Array Value} {w0 : World} {x : Gro w0} {v : Value}
    (h : Calls P f args x.val fun e w' => e = .returned v ∧ ∃ q os, w' = grow (x.val.drewN q) os) : Calls P f args x.val fun e w'' => e = .returned v ∧ ∃ x' : Gro w0, w'' = x'.val :=
  h.mono fun _ w' ⟨he, hg⟩ => ⟨he, ⟨w', gro_trans x.is_ hg⟩, rfl⟩
theorem gro_alloc (w : World) (o : Obj) : ∃ q os, w.alloc o = grow (w.drewN q) os := ⟨0, #[o], alloc_eq_grow w o⟩
theorem gro_same (w : World) : ∃ q os, w = grow (w.drewN q) os := ⟨0, #[], by simp [grow, World.drewN]⟩

/-- The comparison of two places by a coordinate, and by place. -/
def cmpK (c : Nat → Int) (a b : Nat) : Int := or2 (cmpI (c a) (c b)) (cmpI (a : Int) (b : Int))
theorem cmpK_neg (c : Nat → Int) (a b : Nat) : cmpK c a b < 0 ↔ (c a < c b ∨ (c a = c b ∧ a < b)) := by
  have := cmpN_neg (c a) (a : Int) (c b) (b : Int)
  unfold cmpN at this
  unfold cmpK
  rw [this]; omega

set_option maxRecDepth 100000 in
set_option maxHeartbeats 4000000 in
theorem growOrd_any (b3 b5 : Nat) (a : Option Addr) (cap n x y deep : Nat) (L : List Pt) (w : World) (h : SlF ptL 3 w a n cap L) (hn : n ≤ 1000) (hb3 : w.cell? ⟨b3, 0, none⟩ = some (.slice a n cap)) (hb5 : w.cell? ⟨b5, 0, none⟩ = some (.int .i64 (deep : Int))) (hx : x < n) (hy : y < n) (hd : deep ≤ 1000) :
    Calls Try.prog 98 #[.int .i64 x, .int .i64 y, .pointer (some ⟨b3, 0, none⟩), .pointer (some ⟨b5, 0, none⟩)] w fun e w' => e = .returned (.int .i64 (cmpK (fun i => crd (L.getD i pt0) deep) x y)) ∧ ∃ q os, w' = grow (w.drewN q) os := by
  have hl := h.len ptL_len (by omega)
  obtain ⟨b, off, rfl, hbw, cx⟩ := h.at ptL_len (by omega) x (by omega)
  obtain ⟨_, _, e1, _, cy⟩ := h.at ptL_len (by omega) y (by omega)
  simp only [Option.some.injEq, Addr.mk.injEq, and_true] at e1
  obtain ⟨rfl, rfl⟩ := e1
  rw [← getD_at L pt0 (by omega)] at cx cy
  have HP := Kp.mk (show cmpK (fun i => crd (L.getD i pt0) deep) x y = or2 (cmpI (crd (L.getD x pt0) deep) (crd (L.getD y pt0) deep)) (cmpI x y) from rfl)
  generalize L.getD x pt0 = p at *
  generalize L.getD y pt0 = q at *
  have x0 := gro_cell (show w.cell? ⟨b, off + x * 3, none⟩ = some (.int .i64 p.x) from cx 0 (by omega))
  have x1 := gro_cell (show w.cell? ⟨b, off + x * 3 + 1, none⟩ = some (.int .i64 p.y) from cx 1 (by omega))
  have x2 := gro_cell (show w.cell? ⟨b, off + x * 3 + 2, none⟩ = some (.int .i64 p.w) from cx 2 (by omega))
  have y0 := gro_cell (show w.cell? ⟨b, off + y * 3, none⟩ = some (.int .i64 q.x) from cy 0 (by omega))
  have y1 := gro_cell (show w.cell? ⟨b, off + y * 3 + 1, none⟩ = some (.int .i64 q.y) from cy 1 (by omega))
  have y2 := gro_cell (show w.cell? ⟨b, off + y * 3 + 2, none⟩ = some (.int .i64 q.w) from cy 2 (by omega))
  have g3 := gro_cell hb3
  have g5 := gro_cell hb5
  rw [HP.out]
  obtain ⟨u, hu⟩ : ∃ u, crd p deep = u := ⟨_, rfl⟩
  obtain ⟨v, hv⟩ : ∃ v, crd q deep = v := ⟨_, rfl⟩
  have CP := Kp.mk (fun (W : World) => (coord_any p deep W hd).mono (R' := fun e w' => e = .returned (.int .i64 u) ∧ ∃ q os, w' = grow (W.drewN q) os) (fun e w' ⟨h1, h2⟩ => ⟨by rw [← hu]; exact h1, by rw [h2]; exact gro_alloc _ _⟩))
  have CQ := Kp.mk (fun (W : World) => (coord_any q deep W hd).mono (R' := fun e w' => e = .returned (.int .i64 v) ∧ ∃ q os, w' = grow (W.drewN q) os) (fun e w' ⟨h1, h2⟩ => ⟨by rw [← hv]; exact h1, by rw [h2]; exact gro_alloc _ _⟩))
  rw [hu, hv]
  have C1 := Kp.mk (fun (W : World) => (compare_any u v W).mono (R' := fun e w' => e = .returned (.int .i64 (cmpI u v)) ∧ ∃ q os, w' = grow (W.drewN q) os) (fun e w' ⟨h1, h2⟩ => ⟨h1, by rw [← h2]; exact gro_same _⟩))
  have C2 := Kp.mk (fun (W : World) => (compare_any (x : Int) (y : Int) W).mono (R' := fun e w' => e = .returned (.int .i64 (cmpI x y)) ∧ ∃ q os, w' = grow (W.drewN q) os) (fun e w' ⟨h1, h2⟩ => ⟨h1, by rw [← h2]; exact gro_same _⟩))
  clear h cx cy HP hl hu hv hb3 hb5
  generalize cmpI u v = r1 at *
  generalize cmpI (x : Int) (y : Int) = r2 at *
  have hxz : (x : Int) < n := by omega
  have hyz : (y : Int) < n := by omega
  go_enter Try.func98, Try.ntmps98
  go_wp2
  refine region_quiet_tail 16 (fun w' => ∃ x : Gro w, w' = x.val) (by kernel_rfl) (by kernel_rfl) ⟨⟨w.drew, 1, #[], by simp [grow, World.drewN]; rfl⟩, rfl⟩ ?_
  simp only [List.take_succ_cons, List.take_zero, List.drop_succ_cons, List.drop_zero]
  iterate 16 (go_big_quiet_step (first | (go_at_call 99; with_reducible exact q_gro (CP.out _)) | (go_at_call 99; with_reducible exact q_gro (CQ.out _)) | (go_at_call 67; with_reducible exact q_gro (C1.out _)) | (go_at_call 67; with_reducible exact q_gro (C2.out _)) | fail))
  refine wpQuiet_nil ?_
  rintro w1 ⟨xl, rfl⟩
  have HG := Kp.mk xl.is_
  clear x0 x1 x2 y0 y1 y2 g3 g5 CP CQ C1 C2
  generalize xl.val = w1 at *
  have bx := Box.new w1 #[.int .i64 r1, .int .i64 r2] 3
  have CO := Kp.mk (or2_any w1.heap.size r1 r2 (w1.alloc (.cells #[.int .i64 r1, .int .i64 r2] 3)) (bx.cell 0 rfl) (bx.cell 1 rfl))
  clear bx
  go_wp2_with fail
  refine CO.out.mono ?_
  rintro e w' ⟨rfl, rfl⟩
  go_wp2
  go_ret
  exact ⟨rfl, gro_trans HG.out (gro_alloc _ _)⟩

end Go.Proofs.Ytlmdlholmlbcbaa

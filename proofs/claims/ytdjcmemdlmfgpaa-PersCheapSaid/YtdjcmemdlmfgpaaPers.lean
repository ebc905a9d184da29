/- Package pers: trees in memory; leaf, join. -/
import Derived.Test.YtdjcmemdlmfgpaaPersP
namespace Go.Proofs.Ytdjcmemdlmfgpaa
set_option linter.unusedVariables false
open Go.RowKit

/-- A tree in memory; N: the blocks of all nodes, as they were made. -/
def PMem (w : World) (N : List Nat) : PT → Prop
  | .leaf i v => ∃ b, N[i]? = some b ∧ Box w b #[.int .i64 v, .int .i64 1, .pointer none] 52
  | .node i l r => ∃ b p x y, N[i]? = some b ∧ N[l.id]? = some x ∧ N[r.id]? = some y ∧ Box w b #[.int .i64 0, .int .i64 ((l.wide + r.wide : Nat) : Int), .pointer (some ⟨p, 0, none⟩)] 52 ∧
      Box w p #[.pointer (some ⟨x, 0, none⟩), .pointer (some ⟨y, 0, none⟩)] 56 ∧ PMem w N l ∧ PMem w N r
theorem get_more {N M : List Nat} {i b : Nat} (h : N[i]? = some b) : (N ++ M)[i]? = some b := by
  obtain ⟨hi, rfl⟩ := List.getElem?_eq_some_iff.1 h
  rw [List.getElem?_append_left hi, List.getElem?_eq_getElem hi]
theorem PMem.more {w w' : World} {N M : List Nat} {T : PT} (h : PMem w N T) (hb : Below w.heap.size w w') : PMem w' (N ++ M) T := by
  induction T with
  | leaf i v =>
    obtain ⟨b, h1, h2⟩ := h
    exact ⟨b, get_more h1, h2.below hb⟩
  | node i l r hl hr =>
    obtain ⟨b, p, x, y, h1, h2, h3, h4, h5, h6, h7⟩ := h
    exact ⟨b, p, x, y, get_more h1, get_more h2, get_more h3, h4.below hb, h5.below hb, hl h6, hr h7⟩
theorem PMem.below {w w' : World} {N : List Nat} {T : PT} (h : PMem w N T) (hb : Below w.heap.size w w') : PMem w' N T := by
  have := h.more (M := []) hb
  rwa [List.append_nil] at this
theorem PMem.root {w : World} {N : List Nat} {T : PT} (h : PMem w N T) : ∃ b v q, N[T.id]? = some b ∧ Box w b #[.int .i64 v, .int .i64 (T.wide : Nat), q] 52 := by
  cases T with
  | leaf i v => obtain ⟨b, h1, h2⟩ := h; exact ⟨b, _, _, h1, h2⟩
  | node i l r => obtain ⟨b, p, x, y, h1, _, _, h4, _⟩ := h; exact ⟨b, _, _, h1, by rw [PT.wide_node]; exact h4⟩
/-- The blocks of nodes. -/
structure Nods (w : World) (N : List Nat) : Prop where
  nd : N.Nodup
  lt : ∀ b ∈ N, b < w.heap.size
theorem Nods.below {w w' : World} {N : List Nat} (h : Nods w N) (hb : Below w.heap.size w w') : Nods w' N := ⟨h.nd, fun b hm => Nat.lt_of_lt_of_le (h.lt b hm) hb.size⟩
theorem Nods.snoc {w w' : World} {N : List Nat} {b : Nat} (h : Nods w N) (hb : Below w.heap.size w w') (h1 : w.heap.size ≤ b) (h2 : b < w'.heap.size) : Nods w' (N ++ [b]) := by
  refine ⟨List.nodup_append.2 ⟨h.nd, List.nodup_cons.2 ⟨by simp, List.nodup_nil⟩, fun x hx y hy e => ?_⟩, fun x hx => ?_⟩
  · rw [List.mem_singleton.1 hy] at e
    have := h.lt x hx
    omega
  · rcases List.mem_append.1 hx with hx | hx
    · exact Nat.lt_of_lt_of_le (h.lt x hx) hb.size
    · rw [List.mem_singleton.1 hx]; exact h2
/-- What a call hands back: a tree whose new nodes stand behind those that were there. -/
structure PGot (w : World) (N : List Nat) (T : PT) (n1 : Nat) (w' : World) (N' : List Nat) (b : Nat) : Prop where
  pre : ∃ M, N' = N ++ M
  len : N'.length = n1
  root : N'[T.id]? = some b
  mem : PMem w' N' T
  nods : Nods w' N'
  bel : Below w.heap.size w w'
def PRet (w : World) (N : List Nat) (R : PT × Nat) (e : Ending) (w' : World) : Prop := ∃ N' b, e = .returned (.pointer (some ⟨b, 0, none⟩)) ∧ PGot w N R.1 R.2 w' N' b
theorem PGot.keep {w w' : World} {N N' : List Nat} {T U : PT} {n1 b : Nat} (h : PGot w N T n1 w' N' b) (hm : PMem w N U) : PMem w' N' U := by
  obtain ⟨M, rfl⟩ := h.pre
  exact hm.more h.bel
theorem PGot.get {w w' : World} {N N' : List Nat} {T : PT} {n1 b i c : Nat} (h : PGot w N T n1 w' N' b) (hm : N[i]? = some c) : N'[i]? = some c := by
  obtain ⟨M, rfl⟩ := h.pre
  exact get_more hm

theorem PGot.later {w w' w'' : World} {N N' : List Nat} {T : PT} {n1 b : Nat} (h : PGot w N T n1 w' N' b) (hb : Below w'.heap.size w' w'') : PGot w N T n1 w'' N' b :=
  ⟨h.pre, h.len, h.root, h.mem.below hb, h.nods.below hb, below_step h.bel hb⟩

set_option maxHeartbeats 1000000 in
theorem pleaf_any (v : Int) (N : List Nat) (w : World) (hN : Nods w N) :
    Calls Try.prog 16 #[.int .i64 v] w (PRet w N (.leaf N.length v, N.length + 1)) := by
  have HN := Kp.mk hN
  have HF := Kp.mk (fun (w' : World) (h : w' = w.alloc (.cells #[.int .i64 v, .int .i64 1, .pointer none] 52)) => show PGot w N (.leaf N.length v) (N.length + 1) w' (N ++ [w.heap.size]) w.heap.size from by
    subst h
    have hb := below_alloc (Nat.le_refl w.heap.size) (.cells #[.int .i64 v, .int .i64 1, .pointer none] 52)
    have hg : (N ++ [w.heap.size])[N.length]? = some w.heap.size := by simp
    exact ⟨⟨_, rfl⟩, by simp, hg, ⟨_, hg, Box.new _ _ _⟩, hN.snoc hb (Nat.le_refl _) (by rw [alloc_size]; omega), hb⟩)
  clear hN
  go_enter Try.func16, Try.ntmps16
  go_wp2
  go_ret
  exact ⟨_, _, rfl, HF.out _ rfl⟩

set_option maxRecDepth 100000 in
set_option maxHeartbeats 1000000 in
theorem pjoin_any (l r : PT) (x y : Nat) (N : List Nat) (w : World) (hN : Nods w N) (hl : PMem w N l) (hr : PMem w N r) (hx : N[l.id]? = some x) (hy : N[r.id]? = some y) (hlw : l.wide ≤ 1000) (hrw : r.wide ≤ 1000) :
    Calls Try.prog 18 #[.pointer (some ⟨x, 0, none⟩), .pointer (some ⟨y, 0, none⟩)] w (PRet w N (.node N.length l r, N.length + 1)) := by
  obtain ⟨x', v1, q1, hx', b1⟩ := hl.root
  obtain ⟨y', v2, q2, hy', b2⟩ := hr.root
  obtain rfl : x' = x := by rw [hx] at hx'; simpa using hx'.symm
  obtain rfl : y' = y := by rw [hy] at hy'; simpa using hy'.symm
  have c1 : w.cell? ⟨x', 1, none⟩ = some (.int .i64 (l.wide : Nat)) := b1.cell 1 rfl
  have c2 : w.cell? ⟨y', 1, none⟩ = some (.int .i64 (r.wide : Nat)) := b2.cell 1 rfl
  have HF := Kp.mk (fun (w0 w1 w' : World) (hw0 : Below w.heap.size w w0) (hw1 : w1 = w0.alloc (.cells #[.pointer (some ⟨x', 0, none⟩), .pointer (some ⟨y', 0, none⟩)] 56)) (W : Int) (hW : W = ((l.wide + r.wide : Nat) : Int))
      (h : w' = w1.alloc (.cells #[.int .i64 0, .int .i64 W, .pointer (some ⟨w0.heap.size, 0, none⟩)] 52)) => show PGot w N (.node N.length l r) (N.length + 1) w' (N ++ [w1.heap.size]) w1.heap.size from by
    subst hW
    have h1 : Below w0.heap.size w0 w1 := by rw [hw1]; exact below_alloc (Nat.le_refl _) _
    have h2 : Below w1.heap.size w1 w' := by rw [h]; exact below_alloc (Nat.le_refl _) _
    have hb : Below w.heap.size w w' := below_step (below_step hw0 h1) h2
    have hg : (N ++ [w1.heap.size])[N.length]? = some w1.heap.size := by simp
    have hp : Box w1 w0.heap.size #[.pointer (some ⟨x', 0, none⟩), .pointer (some ⟨y', 0, none⟩)] 56 := by rw [hw1]; exact Box.new _ _ _
    have hn : Box w' w1.heap.size #[.int .i64 0, .int .i64 ((l.wide + r.wide : Nat) : Int), .pointer (some ⟨w0.heap.size, 0, none⟩)] 52 := by rw [h]; exact Box.new _ _ _
    exact ⟨⟨_, rfl⟩, by simp, hg, ⟨_, _, _, _, hg, get_more hx, get_more hy, hn, hp.below h2, hl.more hb, hr.more hb⟩, hN.snoc hb (Nat.le_trans hw0.size h1.size) (by rw [h, alloc_size]; omega), hb⟩)
  have hxl := b1.lt
  have hyl := b2.lt
  have hlwz : ((l.wide : Nat) : Int) ≤ 1000 := by omega
  have hrwz : ((r.wide : Nat) : Int) ≤ 1000 := by omega
  have HWE := Kp.mk (show ((l.wide : Nat) : Int) + (r.wide : Nat) = ((l.wide + r.wide : Nat) : Int) from by omega)
  have e1 : IntKind.i64.wrap (((l.wide : Nat) : Int) + (r.wide : Nat)) = ((l.wide : Nat) : Int) + (r.wide : Nat) := IntWalk.i64_in _ (by omega)
  have HDR := Kp.mk ((Below.refl w.heap.size w).drew)
  clear hN hl hr hx hy hx' hy' b1 b2
  generalize l.wide = lw at *
  generalize r.wide = rw' at *
  go_enter Try.func18, Try.ntmps18
  go_wp2
  go_region_held3 (fun w' => w'.cell? ⟨x', 1, none⟩ = some (.int .i64 (lw : Int)) ∧ w'.cell? ⟨y', 1, none⟩ = some (.int .i64 (rw' : Int)))
    (first | exact ⟨c1, c2⟩ | go_keep)
    ((first | fail))
  all_goals
    clear e1 c1 c2
    go_wp2
    go_ret
    exact ⟨N ++ [(w.alloc (.cells #[.pointer (some ⟨x', 0, none⟩), .pointer (some ⟨y', 0, none⟩)] 56)).heap.size], _, by rw [alloc_size]; rfl, (HF.out w _ _ (Below.refl _ _) rfl _ HWE.out rfl).later ((Below.refl _ _).drew)⟩

end Go.Proofs.Ytdjcmemdlmfgpaa

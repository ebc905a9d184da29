/- Rows and boxes of different element types lie in different blocks; a box behind an append, a store. -/
import Derived.Test.YtakabjkhcdkkjaaDoorMem
namespace Go.Proofs.YtakabjkhcdkkjaaDoor
set_option linter.unusedVariables false
open Go.RowKit

theorem row_box {W : World} {B bp e size n c m : Nat} {t : TypeId} {a : Option Addr} {cs : Array Value} {xs : List Value} (h : W.ownsRow B e size (.slice a m c) n xs) (hb : Box W bp cs t) (hne : t ≠ e) : blk a ≠ some bp := fun e' => by
  rcases h.2 with ⟨hv, _⟩ | ⟨g, cap, cur, hv, _, hgb, _⟩
  · simp only [Value.slice.injEq] at hv
    rw [hv.1] at e'; cases e'
  · simp only [Value.slice.injEq] at hv
    rw [hv.1] at e'
    simp only [blk, Option.map_some, Option.some.injEq] at e'
    subst e'
    have hb' : W.heap[g]? = some (.cells cs t (0, 0)) := hb
    rw [hgb] at hb'
    simp only [Option.some.injEq, Obj.cells.injEq] at hb'
    exact hne hb'.2.1.symm
theorem box_grow {w w' : World} {b : Nat} {cs : Array Value} {t : TypeId} {r : Option Nat} (h : Box w b cs t) (hg : w.grownBy w' r) (hne : r ≠ some b) : Box w' b cs t := (hg.block b h.lt (fun e => hne e.symm)).trans h
theorem box_far {w : World} {b c o : Nat} {cs : Array Value} {t : TypeId} {v : Value} (h : Box w b cs t) (hne : c ≠ b) : Box (w.setCell ⟨c, o, none⟩ v) b cs t := (heap_setCell_other w ⟨c, o, none⟩ b v (fun e => hne e.symm)).trans h
theorem box_put {w : World} {b i : Nat} {cs : Array Value} {t : TypeId} (h : Box w b cs t) (v : Value) : Box (w.setCell ⟨b, i, none⟩ v) b (cs.setIfInBounds i v) t := by
  obtain ⟨hlt, hk⟩ := Array.getElem?_eq_some_iff.1 h
  show (w.heap.modify b _)[b]? = _
  rw [Array.getElem?_eq_getElem (by rw [Array.size_modify]; exact hlt), Array.getElem_modify_self, hk]
  rfl
theorem box_box {w : World} {b c : Nat} {cs ds : Array Value} {t u : TypeId} (h : Box w b cs t) (k : Box w c ds u) (hne : t ≠ u) : b ≠ c := by
  intro e
  subst e
  have h' : w.heap[b]? = some (.cells cs t (0, 0)) := h
  have k' : w.heap[b]? = some (.cells ds u (0, 0)) := k
  rw [h'] at k'
  simp only [Option.some.injEq, Obj.cells.injEq] at k'
  exact hne k'.2.1
theorem row_row {w : World} {B e size n m c B' e' size' n' m' c' : Nat} {a a' : Option Addr} {xs xs' : List Value} (h : w.ownsRow B e size (.slice a m c) n xs) (h' : w.ownsRow B' e' size' (.slice a' m' c') n' xs') (hne : e ≠ e') : ∀ k, blk a = some k → blk a' ≠ some k := by
  intro k hk hk'
  rcases h.2 with ⟨hv, _⟩ | ⟨g, cap, cur, hv, _, hgb, _⟩
  · simp only [Value.slice.injEq] at hv
    rw [hv.1] at hk; cases hk
  · simp only [Value.slice.injEq] at hv
    rw [hv.1] at hk
    simp only [blk, Option.map_some, Option.some.injEq] at hk
    subst hk
    exact row_box h' (show Box w g cur e from hgb) hne hk'

end Go.Proofs.YtakabjkhcdkkjaaDoor

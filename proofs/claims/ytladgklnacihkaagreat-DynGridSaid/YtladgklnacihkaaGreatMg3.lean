import Derived.Test.YtladgklnacihkaaGreatMg0
import Derived.Test.YtladgklnacihkaaGreatMg2
import Derived.StillTailTactics
import Derived.Sort.OwnSortedInts
/- Rows and boxes of different element types lie in different blocks; a box behind an append, a store. -/
namespace Go.Proofs.YtladgklnacihkaaGreat
set_option linter.unusedVariables false
open Go.RowKit

theorem row_box {W : World} {B bp e size n c m : Nat} {t : TypeId} {a : Option Addr} {cs : Array Value} {xs : List Value} (h : W.ownsRow B e size (.slice a m c) n xs) (hb : Box W bp cs t) (hne : t ≠ e) : blk a ≠ some bp := fun e' => by
  rcases h.2 with ⟨hv, _⟩ | ⟨g, cap, cur, hv, _, hgb, _⟩
  · simp only [Value.slice.injEq] at hv
    rw [hv.1] at e'; cases e'
  · simp only [Value.slice.injEq] at hv
    rw [hv.1] at e'
    simp only [blk, Option.map_some, Option.some.injEq] at e'
    subst e'
    have hb' : W.heap[g]? = some (.cells cs t (0, 0)) := hb
    rw [hgb] at hb'
    simp only [Option.some.injEq, Obj.cells.injEq] at hb'
    exact hne hb'.2.1.symm
theorem box_grow {w w' : World} {b : Nat} {cs : Array Value} {t : TypeId} {r : Option Nat} (h : Box w b cs t) (hg : w.grownBy w' r) (hne : r ≠ some b) : Box w' b cs t := (hg.block b h.lt (fun e => hne e.symm)).trans h
theorem box_far {w : World} {b c o : Nat} {cs : Array Value} {t : TypeId} {v : Value} (h : Box w b cs t) (hne : c ≠ b) : Box (w.setCell ⟨c, o, none⟩ v) b cs t := (heap_setCell_other w ⟨c, o, none⟩ b v (fun e => hne e.symm)).trans h
theorem box_put {w : World} {b i : Nat} {cs : Array Value} {t : TypeId} (h : Box w b cs t) (v : Value) : Box (w.setCell ⟨b, i, none⟩ v) b (cs.setIfInBounds i v) t := by
  obtain ⟨hlt, hk⟩ := Array.getElem?_eq_some_iff.1 h
  show (w.heap.modify b _)[b]? = _
  rw [Array.getElem?_eq_getElem (by rw [Array.size_modify]; exact hlt), Array.getElem_modify_self, hk]
  rfl
theorem box_box {w : World} {b c : Nat} {cs ds : Array Value} {t u : TypeId} (h : Box w b cs t) (k : Box w c ds u) (hne : t ≠ u) : b ≠ c := by
  intro e
  subst e
  have h' : w.heap[b]? = some (.cells cs t (0, 0)) := h
  have k' : w.heap[b]? = some (.cells ds u (0, 0)) := k
  rw [h'] at k'
  simp only [Option.some.injEq, Obj.cells.injEq] at k'
  exact hne k'.2.1
theorem row_row {w : World} {B e size n m c B' e' size' n' m' c' : Nat} {a a' : Option Addr} {xs xs' : List Value} (h : w.ownsRow B e size (.slice a m c) n xs) (h' : w.ownsRow B' e' size' (.slice a' m' c') n' xs') (hne : e ≠ e') : ∀ k, blk a = some k → blk a' ≠ some k := by
  intro k hk hk'
  rcases h.2 with ⟨hv, _⟩ | ⟨g, cap, cur, hv, _, hgb, _⟩
  · simp only [Value.slice.injEq] at hv
    rw [hv.1] at hk; cases hk
  · simp only [Value.slice.injEq] at hv
    rw [hv.1] at hk
    simp only [blk, Option.map_some, Option.some.injEq] at hk
    subst hk
    exact row_box h' (show Box w g cur e from hgb) hne hk'

end Go.Proofs.YtladgklnacihkaaGreat

/- cmp.Or of two numbers; near.order: the walks. -/
namespace Go.Proofs.YtladgklnacihkaaGreat
set_option linter.unusedVariables false
open Go.RowKit Go.Sort

def or2 (a b : Int) : Int := if a ≠ 0 then a else b
set_option maxHeartbeats 1000000 in
theorem or2_any (b : Nat) (a1 a2 : Int) (w : World) (h0 : w.cell? ⟨b, 0, none⟩ = some (.int .i64 a1)) (h1 : w.cell? ⟨b, 1, none⟩ = some (.int .i64 a2)) :
    Calls Tryz.prog 28 #[.slice (some ⟨b, 0, none⟩) 2 2] w fun e w' => e = .returned (.int .i64 (or2 a1 a2)) ∧ w = w' := by
  have hor : (a1 ≠ 0 ∧ Kp (or2 a1 a2 = a1)) ∨ (a1 = 0 ∧ a2 ≠ 0 ∧ Kp (or2 a1 a2 = a2)) ∨ (a1 = 0 ∧ a2 = 0 ∧ Kp (or2 a1 a2 = 0)) := by
    unfold or2
    by_cases e1 : a1 = 0
    · by_cases e2 : a2 = 0
      · exact .inr (.inr ⟨e1, e2, ⟨by simp [e1, e2]⟩⟩)
      · exact .inr (.inl ⟨e1, e2, ⟨by simp [e1]⟩⟩)
    · exact .inl ⟨e1, ⟨by simp [e1]⟩⟩
  obtain ⟨r, hr⟩ : ∃ r, or2 a1 a2 = r := ⟨_, rfl⟩
  have HR := Kp.mk hr
  rw [hr] at hor ⊢
  have HO := Kp.mk hor
  clear hor hr
  go_enter Tryz.func28, Tryz.ntmps28
  go_wp2
  go_loop [8] (fun i => ∃ k : Nat, k ≤ 2 ∧ i = .int .i64 k ∧ Kp (0 < k → a1 = 0) ∧ Kp (1 < k → a2 = 0)) (fun i => 2 - (intOf i).toNat)
  case atStart => exact ⟨0, by omega, rfl, ⟨by omega⟩, ⟨by omega⟩⟩
  case round =>
    obtain ⟨k, hk, rfl, K1, K2⟩ := hrel
    rcases (show k = 0 ∨ k = 1 ∨ k = 2 by omega) with rfl | rfl | rfl
    · by_cases e : a1 = 0
      · have hd : (a1 != 0) = false := by simp [e]
        have HE := Kp.mk e
        clear e
        go_wp2
        go_round
        case rel => exact ⟨1, by omega, rfl, ⟨fun _ => HE.out⟩, ⟨by omega⟩⟩
        case measure => simp [intOf]
      · have hd : (a1 != 0) = true := by simpa using e
        have HF := Kp.mk (show a1 = r from by
          rcases HO.out with ⟨_, h⟩ | ⟨h, _⟩ | ⟨h, _⟩
          · exact h.out.symm
          · exact absurd h e
          · exact absurd h e)
        clear e
        go_wp2
        go_ret
        exact ⟨by rw [← HF.out]; rfl, rfl⟩
    · by_cases e : a2 = 0
      · have hd : (a2 != 0) = false := by simp [e]
        have HE := Kp.mk e
        clear e
        go_wp2
        go_round
        case rel => exact ⟨2, by omega, rfl, ⟨fun _ => K1.out (by omega)⟩, ⟨fun _ => HE.out⟩⟩
        case measure => simp [intOf]
      · have hd : (a2 != 0) = true := by simpa using e
        have HF := Kp.mk (show a2 = r from by
          have k1 := K1.out (by omega)
          rcases HO.out with ⟨h, _⟩ | ⟨_, _, h⟩ | ⟨_, h, _⟩
          · exact absurd k1 h
          · exact h.out.symm
          · exact absurd h e)
        clear e
        go_wp2
        go_ret
        exact ⟨by rw [← HF.out]; rfl, rfl⟩
    · have HF := Kp.mk (show r = 0 from by
        have k1 := K1.out (by omega)
        have k2 := K2.out (by omega)
        rcases HO.out with ⟨h, _⟩ | ⟨_, h, _⟩ | ⟨_, _, h⟩
        · exact absurd k1 h
        · exact absurd k2 h
        · exact h.out)
      go_wp2
      go_ret
      exact ⟨by rw [HF.out]; rfl, rfl⟩

/-- The comparison of two that were found. -/
def cmpN (f1 p1 f2 p2 : Int) : Int := or2 (cmpI f1 f2) (cmpI p1 p2)
theorem cmpN_neg (f1 p1 f2 p2 : Int) : cmpN f1 p1 f2 p2 < 0 ↔ (f1 < f2 ∨ (f1 = f2 ∧ p1 < p2)) := by
  unfold cmpN or2 cmpI
  repeat' split
  all_goals omega
theorem cmpN_pos (f1 p1 f2 p2 : Int) : cmpN f1 p1 f2 p2 > 0 ↔ (f2 < f1 ∨ (f2 = f1 ∧ p2 < p1)) := by
  unfold cmpN or2 cmpI
  repeat' split
  all_goals omega

set_option maxRecDepth 100000 in
set_option maxHeartbeats 2000000 in
theorem order_any (f1 p1 f2 p2 : Int) (w : World) : Calls Tryz.prog 96 #[.agg #[.int .i64 f1, .int .i64 p1], .agg #[.int .i64 f2, .int .i64 p2]] w fun e w' => e = .returned (.int .i64 (cmpN f1 p1 f2 p2)) ∧ ∃ q os, w' = grow (w.drewN q) os := by
  have C1 := Kp.mk (fun W => q_eq (compare_any f1 f2 W))
  have C2 := Kp.mk (fun W => q_eq (compare_any p1 p2 W))
  have HP := Kp.mk (show cmpN f1 p1 f2 p2 = or2 (cmpI f1 f2) (cmpI p1 p2) from rfl)
  rw [HP.out]
  clear HP
  generalize cmpI f1 f2 = r1 at *
  generalize cmpI p1 p2 = r2 at *
  go_enter Tryz.func96, Tryz.ntmps96
  go_upto_region 1 with (fail)
  obtain ⟨W1, hW1⟩ : ∃ W, w.alloc (.cells #[.int .i64 f1, .int .i64 p1] 163) = W := ⟨_, rfl⟩
  obtain ⟨W2, hW2⟩ : ∃ W, W1.alloc (.cells #[.int .i64 f2, .int .i64 p2] 163) = W := ⟨_, rfl⟩
  rw [hW1, hW2]
  have s1 : W1.heap.size = w.heap.size + 1 := by rw [← hW1, alloc_size]
  have x2 : Box W2 w.heap.size #[.int .i64 f1, .int .i64 p1] 163 := by rw [← hW2]; refine Box.alloc ?_ _; rw [← hW1]; exact Box.new _ _ _
  have y2 : Box W2 (w.heap.size + 1) #[.int .i64 f2, .int .i64 p2] 163 := by rw [← hW2, ← s1]; exact Box.new _ _ _
  have c0 : W2.cell? ⟨w.heap.size, 0, none⟩ = some (.int .i64 f1) := x2.cell 0 rfl
  have c1 : W2.cell? ⟨w.heap.size, 1, none⟩ = some (.int .i64 p1) := x2.cell 1 rfl
  have d0 : W2.cell? ⟨w.heap.size + 1, 0, none⟩ = some (.int .i64 f2) := y2.cell 0 rfl
  have d1 : W2.cell? ⟨w.heap.size + 1, 1, none⟩ = some (.int .i64 p2) := y2.cell 1 rfl
  have HG := Kp.mk (show W2 = grow w #[.cells #[.int .i64 f1, .int .i64 p1] 163, .cells #[.int .i64 f2, .int .i64 p2] 163] by rw [← hW2, ← hW1, alloc_eq_grow, alloc_eq_grow, grow_grow]; rfl)
  clear hW1 hW2 s1 x2 y2
  go_still_tail 10, (by kernel_rfl)
  still_call (C1.out _)
  repeat still_step
  still_call (C2.out _)
  try refine wpStill_nil ?_
  have bx := Box.new W2.drew #[.int .i64 r1, .int .i64 r2] 3
  have CO := Kp.mk (or2_any W2.heap.size r1 r2 (W2.drew.alloc (.cells #[.int .i64 r1, .int .i64 r2] 3)) (bx.cell 0 rfl) (bx.cell 1 rfl))
  clear bx
  go_wp2_with fail
  refine CO.out.mono ?_
  rintro e w' ⟨rfl, rfl⟩
  go_wp2
  go_ret
  exact ⟨rfl, 1, _, by rw [HG.out, alloc_eq_grow, grow_grow, drew_grow]; rfl⟩

end Go.Proofs.YtladgklnacihkaaGreat

/- Plain facts on the law's own Numbers, and on Picked. -/
namespace Go.Proofs.YtladgklnacihkaaGreat
set_option linter.unusedVariables false
open Go.RowKit

def nums (l : List Int) (n : Nat) (bound : Int) : List Int := (l.take n).map fun x => pick x bound
theorem nums_length (l : List Int) (n : Nat) (bound : Int) : (nums l n bound).length = min n l.length := by simp [nums]
theorem nums_bd (l : List Int) (n : Nat) (bound : Int) (h : 0 < bound) : ∀ x ∈ nums l n bound, 0 ≤ x ∧ x < bound := by
  intro x hx
  obtain ⟨y, _, rfl⟩ := List.mem_map.1 hx
  exact pick_bd y bound h
theorem nums_succ (l : List Int) (k : Nat) (bound : Int) (h : k < l.length) : nums l (k + 1) bound = nums l k bound ++ [pick l[k] bound] := by
  rw [nums, List.take_succ_eq_append_getElem h, List.map_append]; rfl

theorem nat_list (l : List Int) (h : ∀ x ∈ l, 0 ≤ x) : l = (l.map Int.toNat).map Int.ofNat := by
  rw [List.map_map]
  conv => lhs; rw [← List.map_id l]
  apply List.map_congr_left
  intro x hx
  have := h x hx
  show x = ((x.toNat : Nat) : Int)
  omega

/-- What Numbers gives, as naturals. -/
theorem nums_nat (l : List Int) (n : Nat) (bound : Int) (h : 0 < bound) : ∃ L : List Nat, nums l n bound = L.map Int.ofNat ∧ L.length = (nums l n bound).length ∧ ∀ i, i < L.length → ((L.getD i 0 : Nat) : Int) < bound := by
  refine ⟨(nums l n bound).map Int.toNat, nat_list _ (fun x hx => (nums_bd l n bound h x hx).1), List.length_map _, fun i hi => ?_⟩
  rw [List.length_map] at hi
  have h1 := nums_bd l n bound h _ (List.getElem_mem hi)
  simp only [List.getD, List.getElem?_map, List.getElem?_eq_getElem hi, Option.map_some, Option.getD_some]
  omega

theorem pick_nat (a : Int) (n : Int) (h : 0 < n) : ∃ q : Nat, pick a n = q ∧ (q : Int) < n := by
  have := pick_bd a n h
  exact ⟨(pick a n).toNat, (Int.toNat_of_nonneg this.1).symm, by omega⟩

end Go.Proofs.YtladgklnacihkaaGreat


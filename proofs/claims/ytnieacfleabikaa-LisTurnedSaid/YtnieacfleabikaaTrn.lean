/- Plain facts on rises: a list turned round and upside down; one number more. -/
import Derived.Test.YtnieacfleabikaaRisP
namespace Go.Proofs.Ytnieacfleabikaa
set_option linter.unusedVariables false

/-- How long the longest rise is. -/
def lisL (l : List Int) : Nat := (pilesK l l.length).length
theorem lisL_ge {l : List Int} {r : List Nat} (h : Rises l r) : r.length ≤ lisL l := rise_len h
theorem lisL_ex (l : List Int) : ∃ r, Rises l r ∧ r.length = lisL l := ⟨riseOf l, riseOf_rises l, riseOf_length l⟩
/-- Turned round, each number taken from c. -/
def trn (c : Int) (l : List Int) : List Int := l.reverse.map fun x => c - x
theorem trn_length (c : Int) (l : List Int) : (trn c l).length = l.length := by simp [trn]
theorem trn_at (c : Int) (l : List Int) (i : Nat) (h : i < l.length) : at0 (trn c l) i = c - at0 l (l.length - 1 - i) := by
  unfold at0
  rw [getD_at _ _ (by rw [trn_length]; exact h), getD_at _ _ (by omega)]
  simp [trn]
theorem trn_trn (c : Int) (l : List Int) : trn c (trn c l) = l := by
  simp only [trn, List.map_reverse, List.reverse_reverse, List.map_map]
  conv => rhs; rw [← List.map_id l]
  apply List.map_congr_left
  intro x _
  show c - (c - x) = x
  omega
theorem trn_rises {c : Int} {l : List Int} {r : List Nat} (h : Rises l r) : Rises (trn c l) (r.reverse.map fun x => l.length - 1 - x) := by
  have hlt := h.lt
  refine ⟨fun x hx => ?_, ?_, ?_⟩
  · obtain ⟨y, hy, rfl⟩ := List.mem_map.1 hx
    have := hlt y (List.mem_reverse.1 hy)
    rw [trn_length]; omega
  · refine List.pairwise_map.2 (List.Pairwise.imp_of_mem ?_ (List.pairwise_reverse.2 h.inc))
    intro a b ha hb hab
    have h1 := hlt a (List.mem_reverse.1 ha)
    have h2 := hlt b (List.mem_reverse.1 hb)
    omega
  · refine List.pairwise_map.2 (List.Pairwise.imp_of_mem ?_ (List.pairwise_reverse.2 h.up))
    intro a b ha hb hab
    have h1 := hlt a (List.mem_reverse.1 ha)
    have h2 := hlt b (List.mem_reverse.1 hb)
    rw [trn_at _ _ _ (by omega), trn_at _ _ _ (by omega), show l.length - 1 - (l.length - 1 - a) = a by omega, show l.length - 1 - (l.length - 1 - b) = b by omega]
    omega
theorem trn_lis (c : Int) (l : List Int) : lisL (trn c l) = lisL l := by
  apply Nat.le_antisymm
  · obtain ⟨r, hr, hl⟩ := lisL_ex (trn c l)
    have := lisL_ge (trn_rises (c := c) hr)
    rw [trn_trn] at this
    simp only [List.length_map, List.length_reverse] at this
    omega
  · obtain ⟨r, hr, hl⟩ := lisL_ex l
    have := lisL_ge (trn_rises (c := c) hr)
    simp only [List.length_map, List.length_reverse] at this
    omega
theorem at0_app {l : List Int} {x : Int} {i : Nat} (h : i < l.length) : at0 (l ++ [x]) i = at0 l i := by
  unfold at0
  rw [getD_at _ _ (by simp; omega), getD_at _ _ h, List.getElem_append_left h]
theorem more_rises {l : List Int} {x : Int} {r : List Nat} (h : Rises l r) : Rises (l ++ [x]) r := by
  refine ⟨fun y hy => by have := h.lt y hy; simp; omega, h.inc, List.Pairwise.imp_of_mem ?_ h.up⟩
  intro a b ha hb hab
  rwa [at0_app (h.lt a ha), at0_app (h.lt b hb)]
theorem less_rises {l : List Int} {x : Int} {r : List Nat} (h : Rises (l ++ [x]) r) : Rises l (r.take (r.length - 1)) := by
  have hmem : ∀ y ∈ r.take (r.length - 1), y ∈ r ∧ y < l.length := fun y hy => by
    refine ⟨List.mem_of_mem_take hy, ?_⟩
    obtain ⟨i, hi, rfl⟩ := List.mem_take_iff_getElem.1 hy
    have h1 := List.pairwise_iff_getElem.1 h.inc i (r.length - 1) (by omega) (by omega) (by omega)
    have h2 := h.lt _ (List.getElem_mem (show r.length - 1 < r.length by omega))
    simp at h2
    omega
  refine ⟨fun y hy => (hmem y hy).2, h.inc.sublist (List.take_sublist _ _), List.Pairwise.imp_of_mem ?_ (h.up.sublist (List.take_sublist _ _))⟩
  intro a b ha hb hab
  rwa [at0_app (hmem a ha).2, at0_app (hmem b hb).2] at hab
theorem more_lis (l : List Int) (x : Int) : lisL l ≤ lisL (l ++ [x]) ∧ lisL (l ++ [x]) ≤ lisL l + 1 := by
  refine ⟨?_, ?_⟩
  · obtain ⟨r, hr, hl⟩ := lisL_ex l
    have := lisL_ge (more_rises (x := x) hr)
    omega
  · obtain ⟨r, hr, hl⟩ := lisL_ex (l ++ [x])
    have := lisL_ge (less_rises hr)
    rw [List.length_take] at this
    omega
/-- The first k numbers of it. -/
theorem trn_succ (c : Int) (l : List Int) (k : Nat) (h : k < l.length) : (trn c l).take (k + 1) = (trn c l).take k ++ [c - at0 l (l.length - 1 - k)] := by
  rw [List.take_succ_eq_append_getElem (by rw [trn_length]; exact h), ← trn_at c l k h, at0_get (by rw [trn_length]; exact h)]

end Go.Proofs.Ytnieacfleabikaa

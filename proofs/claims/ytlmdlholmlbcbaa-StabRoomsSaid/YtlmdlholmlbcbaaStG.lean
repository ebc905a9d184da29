/- Spans apart: the greedy choice, in plain Lean. -/
import Derived.Test.YtlmdlholmlbcbaaSmP
import Derived.Test.YtlmdlholmlbcbaaSpn
namespace Go.Proofs.Ytlmdlholmlbcbaa
set_option linter.unusedVariables false
open Go.RowKit

/-- What the greedy choice has after the first k of the places M. -/
def GInv (L : List Spn) (M : List Nat) (k : Nat) (out : List Nat) : Prop :=
  (∀ x ∈ out, x ∈ M.take k) ∧ out.Pairwise (fun x y => (L.getD x sp0).hi < (L.getD y sp0).lo) ∧ (0 < k → 0 < out.length) ∧ ∀ m ∈ M.take k, ∃ t ∈ out, (L.getD m sp0).lo ≤ (L.getD t sp0).hi ∧ (L.getD t sp0).hi ≤ (L.getD m sp0).hi
theorem ginv_zero (L : List Spn) (M : List Nat) : GInv L M 0 [] := ⟨fun x h => absurd h List.not_mem_nil, List.Pairwise.nil, fun h => absurd h (Nat.lt_irrefl 0), fun m h => absurd h (by simp)⟩
theorem take_one (M : List Nat) (k : Nat) (h : k < M.length) : M.take (k + 1) = M.take k ++ [M.getD k 0] := by
  rw [List.take_succ_eq_append_getElem h, getD_at _ _ h]
theorem ginv_new {L : List Spn} {M out : List Nat} {k i : Nat} (hk : k < M.length) (hi : M.getD k 0 = i) (ho : (L.getD i sp0).lo ≤ (L.getD i sp0).hi) (hA : ∀ x ∈ out, (L.getD x sp0).hi < (L.getD i sp0).lo) (h : GInv L M k out) : GInv L M (k + 1) (out ++ [i]) := by
  obtain ⟨h1, h2, h3, h4⟩ := h
  refine ⟨fun x hx => ?_, List.pairwise_append.2 ⟨h2, List.pairwise_singleton _ _, fun x hx y hy => ?_⟩, fun _ => by simp, fun m hm => ?_⟩
  · rw [take_one M k hk, hi]
    rcases List.mem_append.1 hx with hx | hx
    · exact List.mem_append_left _ (h1 x hx)
    · exact List.mem_append_right _ hx
  · rw [List.mem_singleton.1 hy]; exact hA x hx
  · rw [take_one M k hk, hi] at hm
    rcases List.mem_append.1 hm with hm | hm
    · obtain ⟨t, ht, a, b⟩ := h4 m hm
      exact ⟨t, List.mem_append_left _ ht, a, b⟩
    · rw [List.mem_singleton.1 hm]
      exact ⟨i, List.mem_append_right _ (List.mem_singleton.2 rfl), ho, Int.le_refl _⟩
theorem ginv_old {L : List Spn} {M out : List Nat} {k i t : Nat} (hk : k < M.length) (hi : M.getD k 0 = i) (ht : t ∈ out) (h1 : (L.getD i sp0).lo ≤ (L.getD t sp0).hi) (h2 : (L.getD t sp0).hi ≤ (L.getD i sp0).hi) (h : GInv L M k out) : GInv L M (k + 1) out := by
  obtain ⟨g1, g2, g3, g4⟩ := h
  refine ⟨fun x hx => ?_, g2, fun _ => List.length_pos_of_mem ht, fun m hm => ?_⟩
  · rw [take_one M k hk]; exact List.mem_append_left _ (g1 x hx)
  · rw [take_one M k hk, hi] at hm
    rcases List.mem_append.1 hm with hm | hm
    · exact g4 m hm
    · rw [List.mem_singleton.1 hm]; exact ⟨t, ht, h1, h2⟩
/-- Those that are chosen end at the last one, at the latest. -/
theorem ginv_last {L : List Spn} {M out : List Nat} {k j : Nat} (hO : ∀ x ∈ out, (L.getD x sp0).lo ≤ (L.getD x sp0).hi) (h : GInv L M k out) (hj : out.length = j + 1) : ∀ x ∈ out, (L.getD x sp0).hi ≤ (L.getD (out.getD j 0) sp0).hi := by
  intro x hx
  obtain ⟨q, hq, rfl⟩ := List.getElem_of_mem hx
  by_cases e : q = j
  · subst e; rw [getD_at _ _ hq]; exact Int.le_refl _
  · have hp := List.pairwise_iff_getElem.1 h.2.1 q j hq (by omega) (by omega)
    have ho := hO out[j] (List.getElem_mem _)
    rw [getD_at out 0 (by omega : j < out.length)]
    omega

end Go.Proofs.Ytlmdlholmlbcbaa

/- Spans apart: any two greedy choices are as long. -/
import Derived.Test.YtlmdlholmlbcbaaStG
namespace Go.Proofs.Ytlmdlholmlbcbaa
set_option linter.unusedVariables false
open Go.RowKit

theorem ginv_le {L : List Spn} {M M' out out' : List Nat} {n : Nat} (h : GInv L M n out) (h' : GInv L M' n out') (hM : M.Perm (List.range n)) (hM' : M'.Perm (List.range n)) : out.length ≤ out'.length := by
  have hl : M.length = n := by have := hM.length_eq; rw [List.length_range] at this; exact this
  have hl' : M'.length = n := by have := hM'.length_eq; rw [List.length_range] at this; exact this
  have key : ∀ x, ∃ t, x ∈ out → t ∈ out' ∧ (L.getD x sp0).lo ≤ (L.getD t sp0).hi ∧ (L.getD t sp0).hi ≤ (L.getD x sp0).hi := by
    intro x
    by_cases hx : x ∈ out
    · have h1 := h.1 x hx
      rw [List.take_of_length_le (by omega)] at h1
      have h2 : x ∈ M'.take n := by
        rw [List.take_of_length_le (by omega)]
        exact hM'.mem_iff.2 (hM.mem_iff.1 h1)
      obtain ⟨t, ht, a, b⟩ := h'.2.2.2 x h2
      exact ⟨t, fun _ => ⟨ht, a, b⟩⟩
    · exact ⟨0, fun h => absurd h hx⟩
  obtain ⟨f, hf⟩ := Classical.skolem.1 key
  have hn : (out.map f).Nodup := by
    refine List.pairwise_map.2 (h.2.1.imp_of_mem ?_)
    intro x y hx hy hxy e
    have a := hf x hx
    have b := hf y hy
    rw [e] at a
    omega
  have := List.Nodup.length_le_of_subset hn (l₂ := out') (fun t ht => by
    obtain ⟨x, hx, rfl⟩ := List.mem_map.1 ht
    exact (hf x hx).1)
  rwa [List.length_map] at this
theorem ginv_same {L : List Spn} {M M' out out' : List Nat} {n : Nat} (h : GInv L M n out) (h' : GInv L M' n out') (hM : M.Perm (List.range n)) (hM' : M'.Perm (List.range n)) : out.length = out'.length := Nat.le_antisymm (ginv_le h h' hM hM') (ginv_le h' h hM' hM)

end Go.Proofs.Ytlmdlholmlbcbaa

/- Plain facts on the law's own Numbers, and on Picked. -/
import Derived.Test.YtakabjkhcdkkjaaDoorKeep
namespace Go.Proofs.YtakabjkhcdkkjaaDoor
set_option linter.unusedVariables false
open Go.RowKit

def nums (l : List Int) (n : Nat) (bound : Int) : List Int := (l.take n).map fun x => pick x bound
theorem nums_length (l : List Int) (n : Nat) (bound : Int) : (nums l n bound).length = min n l.length := by simp [nums]
theorem nums_bd (l : List Int) (n : Nat) (bound : Int) (h : 0 < bound) : ∀ x ∈ nums l n bound, 0 ≤ x ∧ x < bound := by
  intro x hx
  obtain ⟨y, _, rfl⟩ := List.mem_map.1 hx
  exact pick_bd y bound h
theorem nums_succ (l : List Int) (k : Nat) (bound : Int) (h : k < l.length) : nums l (k + 1) bound = nums l k bound ++ [pick l[k] bound] := by
  rw [nums, List.take_succ_eq_append_getElem h, List.map_append]; rfl

theorem nat_list (l : List Int) (h : ∀ x ∈ l, 0 ≤ x) : l = (l.map Int.toNat).map Int.ofNat := by
  rw [List.map_map]
  conv => lhs; rw [← List.map_id l]
  apply List.map_congr_left
  intro x hx
  have := h x hx
  show x = ((x.toNat : Nat) : Int)
  omega

/-- What Numbers gives, as naturals. -/
theorem nums_nat (l : List Int) (n : Nat) (bound : Int) (h : 0 < bound) : ∃ L : List Nat, nums l n bound = L.map Int.ofNat ∧ L.length = (nums l n bound).length ∧ ∀ i, i < L.length → ((L.getD i 0 : Nat) : Int) < bound := by
  refine ⟨(nums l n bound).map Int.toNat, nat_list _ (fun x hx => (nums_bd l n bound h x hx).1), List.length_map _, fun i hi => ?_⟩
  rw [List.length_map] at hi
  have h1 := nums_bd l n bound h _ (List.getElem_mem hi)
  simp only [List.getD, List.getElem?_map, List.getElem?_eq_getElem hi, Option.map_some, Option.getD_some]
  omega

theorem pick_nat (a : Int) (n : Int) (h : 0 < n) : ∃ q : Nat, pick a n = q ∧ (q : Int) < n := by
  have := pick_bd a n h
  exact ⟨(pick a n).toNat, (Int.toNat_of_nonneg this.1).symm, by omega⟩

end Go.Proofs.YtakabjkhcdkkjaaDoor

/- Rows in blocks, none of which falls. -/
import Derived.Test.YtlmdlholmlbcbaaSmP
namespace Go.Proofs.Ytlmdlholmlbcbaa
set_option linter.unusedVariables false
open Go.RowKit

inductive Blk (key : Nat → Int) (s : Nat) : List Nat → Prop
  | last (M : List Nat) : M.length ≤ s → Up key M → Blk key s M
  | cons (M Y : List Nat) : M.length = s → Up key M → Blk key s Y → Blk key s (M ++ Y)
inductive FBlk (key : Nat → Int) (s : Nat) : List Nat → Prop
  | nil : FBlk key s []
  | cons (M Y : List Nat) : M.length = s → Up key M → FBlk key s Y → FBlk key s (M ++ Y)
theorem FBlk.snoc {key : Nat → Int} {s : Nat} {P M : List Nat} (h : FBlk key s P) (hl : M.length = s) (hu : Up key M) : FBlk key s (P ++ M) := by
  induction h with
  | nil => simpa using FBlk.cons M [] hl hu .nil
  | cons A Y ha hua _ ih => rw [List.append_assoc]; exact .cons A _ ha hua ih
theorem FBlk.append {key : Nat → Int} {s : Nat} {P Q : List Nat} (h : FBlk key s P) (hq : Blk key s Q) : Blk key s (P ++ Q) := by
  induction h with
  | nil => simpa using hq
  | cons A Y ha hua _ ih => rw [List.append_assoc]; exact .cons A _ ha hua ih
theorem Blk.split {key : Nat → Int} {s : Nat} {Q : List Nat} (h : Blk key s Q) (hs : s ≤ Q.length) : ∃ M Y, Q = M ++ Y ∧ M.length = s ∧ Up key M ∧ Blk key s Y := by
  cases h with
  | last _ hl hu => exact ⟨Q, [], by simp, by omega, hu, .last [] (Nat.zero_le _) (up_nil key)⟩
  | cons M Y hl hu hy => exact ⟨M, Y, rfl, hl, hu, hy⟩
theorem Blk.up {key : Nat → Int} {s : Nat} {Q : List Nat} (h : Blk key s Q) (hs : Q.length ≤ s) : Up key Q := by
  cases h with
  | last _ hl hu => exact hu
  | cons M Y hl hu hy =>
    have : Y.length = 0 := by rw [List.length_append] at hs; omega
    rw [List.length_eq_zero_iff.1 this, List.append_nil]; exact hu

end Go.Proofs.Ytlmdlholmlbcbaa

/- Package wave: Rank, below, kth, Below, Kth, Next. -/
import Derived.Test.YtepcmpcnkmfpcaaWavA
namespace Go.Proofs.Ytepcmpcnkmfpcaa
set_option linter.unusedVariables false
open Go.RowKit

theorem i64_bit (x r : Nat) (hx : x < 9223372036854775808) : (bits BinOp.and IntKind.i64 ((x : Int) / 2 ^ r) 1 == 1) = bitB x r ∧ ∃ y : Nat, bits BinOp.and IntKind.i64 ((x : Int) / 2 ^ r) 1 = (y : Int) ∧ ((y : Int) == 1) = bitB x r := by
  have e : (x : Int) / 2 ^ r = ((x / 2 ^ r : Nat) : Int) := by push_cast; rfl
  have hd : x / 2 ^ r ≤ x := Nat.div_le_self _ _
  have := i64_and_nat (x / 2 ^ r) 1 (by omega) (by decide)
  have h2 : bits BinOp.and IntKind.i64 ((x : Int) / 2 ^ r) 1 = ((x / 2 ^ r % 2 : Nat) : Int) := by
    rw [e, show (1 : Int) = ((1 : Nat) : Int) from rfl, this, Nat.and_one_is_mod]
  refine ⟨?_, x / 2 ^ r % 2, h2, bitB_eq x r _ rfl⟩
  rw [h2]; exact bitB_eq x r _ rfl
/-- One step of a range down a wave. -/
theorem wsg_step (K n k a b : Nat) (o : Bool) (l S : List Nat) (hl : l.length = n) (hk : k < K) (hab : a ≤ b) (hb : b ≤ n) (hs : sg (lst K l k) a b = S) :
    dwn (rowAt K l k) a o ≤ dwn (rowAt K l k) b o ∧ dwn (rowAt K l k) b o ≤ n ∧ sg (lst K l (k + 1)) (dwn (rowAt K l k) a o) (dwn (rowAt K l k) b o) = S.filter (fun y => bitB y (K - 1 - k) == o) := by
  have hL : (lst K l k).length = n := by rw [lst_length, hl]
  have e : lst K l (k + 1) = stepL (K - 1 - k) (lst K l k) := lst_succ K l k
  have e2 : rowAt K l k = rowL (K - 1 - k) (lst K l k) := by unfold rowAt; rfl
  rw [e, e2]
  refine ⟨dwn_mono _ _ _ _ hab (by omega) _, by rw [← hL]; exact dwn_le _ _ _ (by omega) _, ?_⟩
  rw [dwn_sg _ _ _ _ hab (by omega), hs]
theorem wzeros (K n k a b : Nat) (l S : List Nat) (hl : l.length = n) (hk : k < K) (hab : a ≤ b) (hb : b ≤ n) (hs : sg (lst K l k) a b = S) :
    dwn (rowAt K l k) b false = dwn (rowAt K l k) a false + (S.filter fun y => bitB y (K - 1 - k) == false).length := by
  obtain ⟨h1, h2, h3⟩ := wsg_step K n k a b false l S hl hk hab hb hs
  have h4 := congrArg List.length h3
  rw [sg_length _ _ _ (by rw [lst_length, hl]; exact h2)] at h4
  omega
theorem wsame (K k x : Nat) (S : List Nat) (hk : k < K) : (same (K - k) x S).filter (fun y => bitB y (K - 1 - k) == bitB x (K - 1 - k)) = same (K - (k + 1)) x S := by
  have := same_step (K - 1 - k) x S
  rw [show K - 1 - k + 1 = K - k by omega] at this
  rw [this, show K - 1 - k = K - (k + 1) by omega]

end Go.Proofs.Ytepcmpcnkmfpcaa

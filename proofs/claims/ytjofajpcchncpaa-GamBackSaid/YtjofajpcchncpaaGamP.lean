/- Plain facts on codes of numbers. -/
import Derived.Test.YtjofajpcchncpaaBitsP
import Derived.Test.YtjofajpcchncpaaBitLen
namespace Go.Proofs.Ytjofajpcchncpaa
set_option linter.unusedVariables false

/-- The first j of the lowest K bits, from the highest on. -/
def binP (n K j : Nat) : List Bool := (List.range j).map fun r => bitB n (K - 1 - r)
theorem binP_zero (n K : Nat) : binP n K 0 = [] := rfl
theorem binP_succ (n K j : Nat) : binP n K (j + 1) = binP n K j ++ [bitB n (K - 1 - j)] := by simp [binP, List.range_succ]
theorem binP_length (n K j : Nat) : (binP n K j).length = j := by simp [binP]
def gamL (n : Nat) : List Bool := List.replicate (Lib.bitLen n - 1) false ++ binP n (Lib.bitLen n) (Lib.bitLen n)
def delL (n : Nat) : List Bool := gamL (Lib.bitLen n) ++ binP n (Lib.bitLen n - 1) (Lib.bitLen n - 1)
def codeL (kind n : Nat) : List Bool := if kind = 2 then delL n else gamL n
theorem bitLen_pos (n : Nat) (h : 0 < n) (h2 : n < 2 ^ 64) : 0 < Lib.bitLen n := by
  have := bitLen_lt n h2
  apply Nat.pos_of_ne_zero
  intro e
  rw [e, Nat.pow_zero] at this; omega
theorem gamL_length (n : Nat) (h : 0 < n) (h2 : n < 2 ^ 64) : (gamL n).length = 2 * Lib.bitLen n - 1 := by
  have := bitLen_pos n h h2
  simp [gamL, binP_length]; omega
theorem delL_length (n : Nat) (h : 0 < n) (h2 : n < 2 ^ 64) : (delL n).length = 2 * Lib.bitLen (Lib.bitLen n) - 1 + (Lib.bitLen n - 1) := by
  have h3 := bitLen_pos n h h2
  have h4 := Lib.bitLen_le n 64 (by omega) h2
  rw [delL, List.length_append, gamL_length _ h3 (by omega), binP_length]
attribute [irreducible] binP gamL delL codeL
end Go.Proofs.Ytjofajpcchncpaa

/- Plain facts on how many bits are set ahead of a place. -/
import Derived.Test.YtepcmpcnkmfpcaaBitsP
import Derived.Test.YtepcmpcnkmfpcaaPopP
namespace Go.Proofs.Ytepcmpcnkmfpcaa
set_option linter.unusedVariables false

theorem pcn_succ (i N : Nat) : pcn (i + 1) N = pcn i N + (if bitB N i then 1 else 0) := by
  rw [pcn_add, pcn_one]
  have := Nat.mod_two_eq_zero_or_one (N / 2 ^ i)
  unfold bitB
  rcases this with h | h <;> rw [h] <;> rfl
theorem pcn_words (N q : Nat) : pcn (64 * (q + 1)) N = pcn (64 * q) N + pcn 64 (wrd N q) := by
  rw [Nat.mul_add, Nat.mul_one, pcn_add]
  unfold wrd
  rw [pcn_mod 64 64 _ (Nat.le_refl _)]
theorem pcn_rest (N q r : Nat) (h : r ≤ 64) : pcn (64 * q + r) N = pcn (64 * q) N + pcn r (wrd N q) := by
  rw [pcn_add]
  unfold wrd
  rw [pcn_mod 64 r (N / 2 ^ (64 * q) % 2 ^ 64) h |>.symm]
  have := pcn_mod 64 64 (N / 2 ^ (64 * q)) (Nat.le_refl _)
  congr 1
  rw [Nat.mod_mod_of_dvd _ (Nat.pow_dvd_pow 2 h)]
  exact (pcn_mod 64 r _ h).symm
/-- How many of the first i are set. -/
def cntB (l : List Bool) (i : Nat) : Nat := (l.take i).count true
theorem cntB_zero (l : List Bool) : cntB l 0 = 0 := by simp [cntB]
theorem cntB_succ (l : List Bool) (i : Nat) (h : i < l.length) : cntB l (i + 1) = cntB l i + (if l[i] then 1 else 0) := by
  unfold cntB
  rw [List.take_succ_eq_append_getElem h, List.count_append]
  cases l[i] <;> simp
theorem cntB_le (l : List Bool) (i : Nat) : cntB l i ≤ i := Nat.le_trans List.count_le_length (List.length_take_le _ _)
theorem pcn_bits (l : List Bool) (i : Nat) (h : i ≤ l.length) : pcn i (bitsN l l.length) = cntB l i := by
  induction i with
  | zero => rw [pcn_none, cntB_zero]
  | succ i ih =>
    rw [pcn_succ, ih (by omega), cntB_succ l i h, bitsN_at l _ i h, getD_at _ _ h]
theorem cntB_append (l m : List Bool) (k : Nat) : cntB (l ++ m) k = cntB l (min k l.length) + cntB m (k - l.length) := by
  unfold cntB
  rw [List.take_append, List.count_append]
  congr 2
  by_cases h : k ≤ l.length
  · rw [Nat.min_eq_left h]
  · rw [Nat.min_eq_right (by omega), List.take_of_length_le (by omega), List.take_of_length_le (by omega)]
attribute [irreducible] cntB
end Go.Proofs.Ytepcmpcnkmfpcaa

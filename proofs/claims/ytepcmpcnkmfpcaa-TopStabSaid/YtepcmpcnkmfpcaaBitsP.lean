/- Plain facts on rows of bits as one great number. -/
import Derived.Test.YtepcmpcnkmfpcaaBool
import Derived.Test.YtepcmpcnkmfpcaaPackP
namespace Go.Proofs.Ytepcmpcnkmfpcaa
set_option linter.unusedVariables false

def bitB (n r : Nat) : Bool := n / 2 ^ r % 2 == 1
theorem bitB_test (n r : Nat) : bitB n r = n.testBit r := by
  unfold bitB
  rw [Nat.testBit_eq_decide_div_mod_eq]
  rfl
theorem bitB_eq (n r y : Nat) (h : n / 2 ^ r % 2 = y) : (((y : Nat) : Int) == 1) = bitB n r := by
  unfold bitB
  rw [h]
  have : y = 0 ∨ y = 1 := by omega
  rcases this with rfl | rfl <;> rfl
def bwN (n : Nat) : Nat := (n + 63) / 64
def bitsN (l : List Bool) : Nat → Nat
  | 0 => 0
  | k + 1 => bitsN l k + (if l.getD k false then 1 else 0) * 2 ^ k
theorem bitsN_succ (l : List Bool) (k : Nat) : bitsN l (k + 1) = bitsN l k + (if l.getD k false then 1 else 0) * 2 ^ k := rfl
theorem bitsN_zero (l : List Bool) : bitsN l 0 = 0 := rfl
theorem bitsN_lt (l : List Bool) (k : Nat) : bitsN l k < 2 ^ k := by
  induction k with
  | zero => simp [bitsN]
  | succ k ih =>
    rw [bitsN_succ, Nat.pow_succ]
    split <;> omega
theorem bitsN_at (l : List Bool) (k i : Nat) (h : i < k) : bitB (bitsN l k) i = l.getD i false := by
  induction k with
  | zero => omega
  | succ k ih =>
    rw [bitsN_succ, bitB_test]
    have hlt := bitsN_lt l k
    by_cases hb : l.getD k false = true
    · rw [if_pos hb, Nat.one_mul]
      by_cases hik : i = k
      · subst hik
        rw [hb, Nat.add_comm, Nat.testBit_two_pow_add_eq, Nat.testBit_lt_two_pow hlt]
        rfl
      · rw [Nat.add_comm, Nat.testBit_two_pow_add_gt (by omega), ← bitB_test]
        exact ih (by omega)
    · rw [if_neg hb, Nat.zero_mul, Nat.add_zero]
      by_cases hik : i = k
      · subst hik
        rw [Nat.testBit_lt_two_pow hlt]
        simpa using hb
      · rw [← bitB_test]; exact ih (by omega)
theorem wrd_bit (N i : Nat) : bitB (wrd N (i / 64)) (i % 64) = bitB N i := by
  rw [bitB_test, bitB_test]
  unfold wrd
  rw [Nat.testBit_mod_two_pow, Nat.testBit_div_two_pow]
  have h1 : i % 64 < 64 := Nat.mod_lt _ (by omega)
  rw [show i % 64 + 64 * (i / 64) = i by omega]
  simp [h1]
theorem last_bits (N n : Nat) (hN : N < 2 ^ n) (hr : n % 64 ≠ 0) : wrd N (bwN n - 1) / 2 ^ (n % 64) = 0 := by
  have e : n = 64 * (bwN n - 1) + n % 64 := by unfold bwN; omega
  apply Nat.div_eq_of_lt
  unfold wrd
  refine Nat.lt_of_le_of_lt (Nat.mod_le _ _) ?_
  rw [Nat.div_lt_iff_lt_mul (Nat.pow_pos (by omega)), ← Nat.pow_add, Nat.add_comm, ← e]
  exact hN
/-- Behind one bit more. -/
theorem put_bit (N k m : Nat) (h : N < 2 ^ k) (hm : k / 64 < m) : wordsOf (N + 1 * 2 ^ k) m = (wordsOf N m).set (k / 64) (wrd N (k / 64) ||| 2 ^ (k % 64)) := by
  have h0 : 1 / 2 ^ (64 - k % 64) = 0 := Nat.div_eq_of_lt (Nat.one_lt_two_pow (by omega))
  rw [put_words N 1 k m h (by decide) hm (fun h => by omega), if_neg (by omega), Nat.one_mul]
  rw [Nat.mod_eq_of_lt (Nat.pow_lt_pow_right (by omega) (Nat.mod_lt _ (by omega)))]
attribute [irreducible] bitB bitsN
end Go.Proofs.Ytepcmpcnkmfpcaa

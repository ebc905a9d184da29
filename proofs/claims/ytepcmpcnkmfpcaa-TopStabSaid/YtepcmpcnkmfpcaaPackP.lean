/- Plain facts on numbers in words of 64 bits. -/
import Derived.Test.YtepcmpcnkmfpcaaNumP
namespace Go.Proofs.Ytepcmpcnkmfpcaa
set_option linter.unusedVariables false

/-- Word j of a great number. -/
def wrd (N j : Nat) : Nat := N / 2 ^ (64 * j) % 2 ^ 64
def wordsOf (N m : Nat) : List Nat := (List.range m).map (wrd N)
theorem wordsOf_length (N m : Nat) : (wordsOf N m).length = m := by simp [wordsOf]
theorem wordsOf_get (N m j : Nat) (h : j < m) : (wordsOf N m)[j]? = some (wrd N j) := by simp [wordsOf, h]
theorem wrd_lt (N j : Nat) : wrd N j < 18446744073709551616 := Nat.mod_lt _ (by decide)
theorem wrd_or (A B j : Nat) : wrd (A ||| B) j = wrd A j ||| wrd B j := by
  unfold wrd
  rw [Nat.or_div_two_pow, Nat.or_mod_two_pow]
theorem wrd_zero (j : Nat) : wrd 0 j = 0 := by simp [wrd]

theorem wrd_low (n at' j : Nat) (h : j < at' / 64) : wrd (n * 2 ^ at') j = 0 := by
  unfold wrd
  have e : at' = 64 * j + (64 + (at' - 64 * j - 64)) := by omega
  rw [e, Nat.pow_add, show n * (2 ^ (64 * j) * 2 ^ (64 + (at' - 64 * j - 64))) = n * 2 ^ (64 + (at' - 64 * j - 64)) * 2 ^ (64 * j) by rw [Nat.mul_assoc, Nat.mul_comm (2 ^ (64 * j))], Nat.mul_div_cancel _ (Nat.pow_pos (by omega)), Nat.pow_add, ← Nat.mul_assoc, Nat.mul_comm n, Nat.mul_assoc, Nat.mul_mod_right]
theorem wrd_at (n at' : Nat) : wrd (n * 2 ^ at') (at' / 64) = n * 2 ^ (at' % 64) % 2 ^ 64 := by
  unfold wrd
  have e : n * 2 ^ at' = n * 2 ^ (at' % 64) * 2 ^ (64 * (at' / 64)) := by
    rw [Nat.mul_assoc, ← Nat.pow_add]; congr 2; omega
  rw [e, Nat.mul_div_cancel _ (Nat.pow_pos (by omega))]
theorem shl_div (n r s : Nat) : n * 2 ^ r / 2 ^ (s + r) = n / 2 ^ s := by
  rw [Nat.pow_add, Nat.mul_div_mul_right _ _ (Nat.pow_pos (by omega))]
theorem div_words (n q r : Nat) (k : Nat) : n * 2 ^ r * 2 ^ (64 * q) / 2 ^ (64 * q + k) = n * 2 ^ r / 2 ^ k := by
  rw [Nat.pow_add, ← Nat.div_div_eq_div_mul, Nat.mul_div_cancel _ (Nat.pow_pos (by omega))]
theorem wrd_up (n at' : Nat) (hr : 0 < at' % 64) (hn : n < 2 ^ 64) : wrd (n * 2 ^ at') (at' / 64 + 1) = n / 2 ^ (64 - at' % 64) := by
  unfold wrd
  have e : n * 2 ^ at' = n * 2 ^ (at' % 64) * 2 ^ (64 * (at' / 64)) := by
    rw [Nat.mul_assoc, ← Nat.pow_add]; congr 2; omega
  have e2 : 64 * (at' / 64 + 1) = 64 * (at' / 64) + (64 - at' % 64 + at' % 64) := by omega
  rw [e, e2, div_words, shl_div]
  exact Nat.mod_eq_of_lt (Nat.lt_of_le_of_lt (Nat.div_le_self _ _) hn)
theorem wrd_far (n at' j : Nat) (hj : at' / 64 + 1 < j ∨ (at' / 64 < j ∧ n * 2 ^ (at' % 64) < 2 ^ 64)) (hn : n < 2 ^ 64) : wrd (n * 2 ^ at') j = 0 := by
  unfold wrd
  have e : n * 2 ^ at' = n * 2 ^ (at' % 64) * 2 ^ (64 * (at' / 64)) := by
    rw [Nat.mul_assoc, ← Nat.pow_add]; congr 2; omega
  obtain ⟨d, hd⟩ : ∃ d, j = at' / 64 + 1 + d := ⟨j - (at' / 64 + 1), by omega⟩
  have e2 : 2 ^ (64 * j) = 2 ^ (64 * (at' / 64)) * 2 ^ (64 * (1 + d)) := by rw [← Nat.pow_add, hd]; congr 1; omega
  rw [e, e2, ← Nat.div_div_eq_div_mul, Nat.mul_div_cancel _ (Nat.pow_pos (by omega)), Nat.div_eq_of_lt, Nat.zero_mod]
  rcases hj with hj | ⟨_, hj⟩
  · have h1 : 2 ^ (at' % 64) ≤ 2 ^ 64 := Nat.pow_le_pow_right (by omega) (by omega)
    have h2 : n * 2 ^ (at' % 64) < 2 ^ 64 * 2 ^ 64 := Nat.mul_lt_mul_of_lt_of_le hn h1 (Nat.pow_pos (by omega))
    rw [← Nat.pow_add] at h2
    exact Nat.lt_of_lt_of_le h2 (Nat.pow_le_pow_right (by omega) (by omega))
  · exact Nat.lt_of_lt_of_le hj (Nat.pow_le_pow_right (by omega) (by omega))

theorem add_or (N n at' : Nat) (h : N < 2 ^ at') : N + n * 2 ^ at' = N ||| (n * 2 ^ at') := by
  have := Nat.two_pow_add_eq_or_of_lt h n
  rw [Nat.or_comm, Nat.mul_comm n, ← this]; omega

/-- Behind a number that was put at a bit. -/
theorem put_words (N n at' m : Nat) (h : N < 2 ^ at') (hn : n < 2 ^ 64) (hm : at' / 64 < m) (hup : 0 < n / 2 ^ (64 - at' % 64) → at' / 64 + 1 < m ∨ at' % 64 = 0) :
    wordsOf (N + n * 2 ^ at') m =
      (if 0 < at' % 64 ∧ 0 < n / 2 ^ (64 - at' % 64) then ((wordsOf N m).set (at' / 64) (wrd N (at' / 64) ||| n * 2 ^ (at' % 64) % 2 ^ 64)).set (at' / 64 + 1) (wrd N (at' / 64 + 1) ||| n / 2 ^ (64 - at' % 64))
       else (wordsOf N m).set (at' / 64) (wrd N (at' / 64) ||| n * 2 ^ (at' % 64) % 2 ^ 64)) := by
  apply List.ext_getElem?
  intro j
  have hl : ∀ X, (wordsOf X m).length = m := fun X => wordsOf_length X m
  by_cases hj : j < m
  · rw [wordsOf_get _ _ _ hj, add_or N n at' h, wrd_or]
    have hlow := wrd_low n at' j
    have hat := wrd_at n at'
    split
    · rename_i hc
      have hup1 := wrd_up n at' hc.1 hn
      rw [List.getElem?_set, List.length_set, hl, List.getElem?_set, hl]
      by_cases h1 : at' / 64 + 1 = j
      · rw [if_pos h1, if_pos (by omega), ← h1, hup1]
      · rw [if_neg h1]
        by_cases h2 : at' / 64 = j
        · rw [if_pos h2, if_pos (by omega), ← h2, hat]
        · rw [if_neg h2, wordsOf_get _ _ _ hj]
          by_cases h3 : j < at' / 64
          · rw [hlow h3, Nat.or_zero]
          · rw [wrd_far n at' j (.inl (by omega)) hn, Nat.or_zero]
    · rename_i hc
      rw [List.getElem?_set, hl]
      by_cases h2 : at' / 64 = j
      · rw [if_pos h2, if_pos (by omega), ← h2, hat]
      · rw [if_neg h2, wordsOf_get _ _ _ hj]
        by_cases h3 : j < at' / 64
        · rw [hlow h3, Nat.or_zero]
        · rw [wrd_far n at' j ?_ hn, Nat.or_zero]
          right
          refine ⟨by omega, ?_⟩
          by_cases hr : at' % 64 = 0
          · rw [hr]; simpa using hn
          · have h0 : n / 2 ^ (64 - at' % 64) = 0 := by
              apply Classical.byContradiction
              intro h0
              exact hc ⟨by omega, Nat.pos_of_ne_zero h0⟩
            have h4 : n < 2 ^ (64 - at' % 64) := by
              rcases Nat.div_eq_zero_iff.1 h0 with h | h
              · exact absurd h (Nat.ne_of_gt (Nat.pow_pos (by omega)))
              · exact h
            have h5 : n * 2 ^ (at' % 64) < 2 ^ (64 - at' % 64) * 2 ^ (at' % 64) := Nat.mul_lt_mul_of_pos_right h4 (Nat.pow_pos (by omega))
            rw [← Nat.pow_add, show 64 - at' % 64 + at' % 64 = 64 by omega] at h5
            exact h5
  · have : ∀ L : List Nat, L.length ≤ j → L[j]? = none := fun L h => List.getElem?_eq_none h
    rw [this _ (by rw [hl]; omega)]
    split <;> rw [this _ (by simp [hl]; omega)]

/-- What fits into m words needs no word past them. -/
theorem up_fits (n at' m : Nat) (h : n * 2 ^ at' < 2 ^ (64 * m)) (hm : at' / 64 < m) (hu : 0 < n / 2 ^ (64 - at' % 64)) : at' / 64 + 1 < m := by
  apply Classical.byContradiction
  intro hc
  have e1 : 64 * m = 64 - at' % 64 + at' := by omega
  rw [e1, Nat.pow_add] at h
  have h2 : n < 2 ^ (64 - at' % 64) := Nat.lt_of_mul_lt_mul_right h
  rw [Nat.div_eq_of_lt h2] at hu
  exact absurd hu (by decide)

/-- The number at a bit, of so many bits. -/
theorem mod_or (a b k : Nat) : (a ||| b) % 2 ^ k = a % 2 ^ k ||| b % 2 ^ k := Nat.or_mod_two_pow
theorem two_words (N at' : Nat) (hr : 0 < at' % 64) : N / 2 ^ at' % 2 ^ 64 = (wrd N (at' / 64) / 2 ^ (at' % 64)) ||| (wrd N (at' / 64 + 1) * 2 ^ (64 - at' % 64) % 2 ^ 64) := by
  unfold wrd
  have e : N / 2 ^ at' = N / 2 ^ (64 * (at' / 64)) / 2 ^ (at' % 64) := by
    rw [Nat.div_div_eq_div_mul, ← Nat.pow_add]; congr 2; omega
  have e2 : 64 * (at' / 64 + 1) = 64 * (at' / 64) + 64 := by omega
  rw [e, e2, Nat.pow_add 2 (64 * (at' / 64)) 64, ← Nat.div_div_eq_div_mul]
  generalize N / 2 ^ (64 * (at' / 64)) = M
  generalize hr' : at' % 64 = r at *
  have hr64 : r < 64 := by omega
  obtain ⟨s, hs⟩ : ∃ s, s + r = 64 := ⟨64 - r, by omega⟩
  rw [show 64 - r = s by omega]
  apply Nat.eq_of_testBit_eq
  intro i
  simp only [Nat.testBit_or, Nat.testBit_mod_two_pow, Nat.testBit_div_two_pow, Nat.testBit_mul_two_pow]
  by_cases h1 : i < 64
  · by_cases h2 : r + i < 64
    · have h3 : ¬ s ≤ i := by omega
      simp [h1, h2, h3, Nat.add_comm i r]
    · have h3 : s ≤ i := by omega
      have h4 : i - s < 64 := by omega
      have h5 : 64 + (i - s) = r + i := by omega
      simp [h1, h2, h3, h4, h5, Nat.add_comm i r, Nat.add_comm (i - s) 64]
  · have h2 : ¬ r + i < 64 := by omega
    simp [h1, h2, Nat.add_comm i r]
theorem mod_mod_pow (x w : Nat) (hw : w ≤ 64) : x % 2 ^ 64 % 2 ^ w = x % 2 ^ w := by
  apply Nat.mod_mod_of_dvd
  exact Nat.pow_dvd_pow 2 hw
theorem get_word (N at' w : Nat) (hw : w ≤ 62) : (N / 2 ^ at') % 2 ^ w =
    (if at' % 64 + w > 64 then (wrd N (at' / 64) / 2 ^ (at' % 64)) ||| (wrd N (at' / 64 + 1) * 2 ^ (64 - at' % 64) % 2 ^ 64) else wrd N (at' / 64) / 2 ^ (at' % 64)) % 2 ^ w := by
  split
  · rename_i h
    rw [← two_words N at' (by omega), mod_mod_pow _ _ (by omega)]
  · rename_i h
    by_cases hr : 0 < at' % 64
    · rw [← mod_mod_pow _ w (by omega), two_words N at' hr, mod_or]
      have : wrd N (at' / 64 + 1) * 2 ^ (64 - at' % 64) % 2 ^ 64 % 2 ^ w = 0 := by
        rw [mod_mod_pow _ _ (by omega), show 64 - at' % 64 = w + (64 - at' % 64 - w) by omega, Nat.pow_add, ← Nat.mul_assoc, Nat.mul_comm _ (2 ^ w), Nat.mul_assoc, Nat.mul_mod_right]
      rw [this, Nat.or_zero]
    · have h0 : at' % 64 = 0 := by omega
      rw [h0, Nat.pow_zero, Nat.div_one]
      unfold wrd
      rw [mod_mod_pow _ _ (by omega), show 64 * (at' / 64) = at' by omega]

end Go.Proofs.Ytepcmpcnkmfpcaa

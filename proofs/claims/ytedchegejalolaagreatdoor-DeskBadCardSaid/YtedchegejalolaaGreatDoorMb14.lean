import Derived.Test.YtedchegejalolaaGreatDoorMb0
import Derived.Test.YtedchegejalolaaGreatDoorMb3
import Derived.Lib.RowBridge
import Derived.Lib.SlicesCompact
/- Ranks: plain. -/
namespace Go.Proofs.YtedchegejalolaaGreatDoor
set_option linter.unusedVariables false
open Go.Lib

/-- Rising, none twice. -/
def Up (l : List Int) : Prop := l.Pairwise (· < ·)
theorem compact_inv (zs : List Int) (hs : ∀ i j, i ≤ j → j < zs.length → zs.toArray[i]! ≤ zs.toArray[j]!) : ∀ m, m ≤ zs.length →
    Up (compactUpTo zs.toArray m) ∧ (∀ x, x ∈ compactUpTo zs.toArray m ↔ ∃ j, j < m ∧ zs.toArray[j]! = x) := by
  intro m
  induction m with
  | zero => intro _; refine ⟨by simp [compactUpTo, Up], fun x => by simp [compactUpTo]⟩
  | succ m ih =>
    intro hm
    obtain ⟨h1, h2⟩ := ih (by omega)
    rw [compactUpTo_succ]
    by_cases hk : keeps zs.toArray m = true
    · rw [if_pos hk]
      refine ⟨?_, fun x => ?_⟩
      · unfold Up
        rw [List.pairwise_append]
        refine ⟨h1, by simp, fun a ha b hb => ?_⟩
        rw [List.mem_singleton] at hb
        subst hb
        obtain ⟨j, hj, rfl⟩ := (h2 a).1 ha
        have hm0 : m ≠ 0 := by omega
        have hne : zs.toArray[m]! ≠ zs.toArray[m - 1]! := by
          unfold keeps at hk
          rw [decide_eq_true_eq] at hk
          rcases hk with h | h
          · exact absurd h hm0
          · exact h
        have a1 := hs j (m - 1) (by omega) (by omega)
        have a2 := hs (m - 1) m (by omega) (by omega)
        omega
      · rw [List.mem_append, h2, List.mem_singleton]
        constructor
        · rintro (⟨j, hj, e⟩ | e)
          · exact ⟨j, by omega, e⟩
          · exact ⟨m, by omega, e.symm⟩
        · rintro ⟨j, hj, e⟩
          by_cases hjm : j = m
          · subst hjm; exact .inr e.symm
          · exact .inl ⟨j, by omega, e⟩
    · rw [if_neg hk, List.append_nil]
      refine ⟨h1, fun x => ?_⟩
      rw [h2]
      have hm0 : m ≠ 0 := fun e => hk (by unfold keeps; rw [decide_eq_true_eq]; exact .inl e)
      have he : zs.toArray[m]! = zs.toArray[m - 1]! := by
        apply Classical.byContradiction
        intro h
        exact hk (keeps_pos h)
      constructor
      · rintro ⟨j, hj, e⟩; exact ⟨j, by omega, e⟩
      · rintro ⟨j, hj, e⟩
        by_cases hjm : j = m
        · subst hjm; exact ⟨j - 1, by omega, by rw [← he]; exact e⟩
        · exact ⟨j, by omega, e⟩
/-- The values of a list: sorted, each once. -/
def valL (l : List Int) : List Int := compact (l.mergeSort fun x y => decide (x ≤ y))
theorem msort_le (l : List Int) (i j : Nat) (hij : i ≤ j) (hj : j < (l.mergeSort fun x y => decide (x ≤ y)).length) : (l.mergeSort fun x y => decide (x ≤ y)).toArray[i]! ≤ (l.mergeSort fun x y => decide (x ≤ y)).toArray[j]! := by
  have h := List.pairwise_mergeSort (le := fun x y : Int => decide (x ≤ y)) (fun a b c h1 h2 => by simp at *; omega) (fun a b => by simp; omega) l
  rcases Nat.eq_or_lt_of_le hij with e | e
  · subst e; exact Int.le_refl _
  · have := List.pairwise_iff_getElem.1 h i j (by omega) hj e
    simp only [decide_eq_true_eq] at this
    have hi : i < (l.mergeSort fun x y => decide (x ≤ y)).length := by omega
    rw [getElem!_pos (l.mergeSort fun x y => decide (x ≤ y)).toArray i (by simpa using hi), getElem!_pos (l.mergeSort fun x y => decide (x ≤ y)).toArray j (by simpa using hj)]
    simpa using this
theorem valL_up (l : List Int) : Up (valL l) := (compact_inv _ (msort_le l) _ (Nat.le_refl _)).1
theorem valL_mem (l : List Int) (x : Int) : x ∈ valL l ↔ x ∈ l := by
  unfold valL compact
  rw [(compact_inv _ (msort_le l) _ (Nat.le_refl _)).2 x]
  have e : x ∈ l ↔ x ∈ (l.mergeSort fun x y => decide (x ≤ y)) := List.mem_mergeSort.symm
  rw [e]
  constructor
  · rintro ⟨j, hj, rfl⟩
    rw [getElem!_pos _ _ (by simpa using hj)]
    simp
  · intro h
    obtain ⟨j, hj, e⟩ := List.getElem_of_mem h
    exact ⟨j, hj, by rw [getElem!_pos _ _ (by simpa using hj)]; simpa using e⟩
theorem valL_length (l : List Int) : (valL l).length ≤ l.length := by
  unfold valL
  have := compact_length_le (l.mergeSort fun x y => decide (x ≤ y))
  rwa [List.length_mergeSort] at this
/-- Rank of a number among values. -/
def IsRk (V : List Int) (x : Int) (k : Nat) : Prop := k ≤ V.length ∧ (∀ i, i < k → V.getD i 0 < x) ∧ (k < V.length → x ≤ V.getD k 0)
theorem up_lt {V : List Int} (h : Up V) {i j : Nat} (hij : i < j) (hj : j < V.length) : V.getD i 0 < V.getD j 0 := by
  rw [getD_at _ _ (by omega), getD_at _ _ hj]
  exact List.pairwise_iff_getElem.1 h i j (by omega) hj hij
theorem up_le {V : List Int} (h : Up V) {i j : Nat} (hij : i ≤ j) (hj : j < V.length) : V.getD i 0 ≤ V.getD j 0 := by
  rcases Nat.eq_or_lt_of_le hij with e | e
  · rw [e]; exact Int.le_refl _
  · exact Int.le_of_lt (up_lt h e hj)
theorem rk_uniq {V : List Int} {x : Int} {a b : Nat} (ha : IsRk V x a) (hb : IsRk V x b) : a = b := by
  rcases Nat.lt_trichotomy a b with h | h | h
  · have h1 := hb.2.1 a h
    have h2 := ha.2.2 (by have := hb.1; omega)
    omega
  · exact h
  · have h1 := ha.2.1 b h
    have h2 := hb.2.2 (by have := ha.1; omega)
    omega
/-- The place of a number is its rank. -/
theorem rk_at {V : List Int} (h : Up V) (k : Nat) (hk : k < V.length) : IsRk V (V.getD k 0) k := ⟨by omega, fun i hi => up_lt h hi hk, fun _ => Int.le_refl _⟩
theorem rk_get {V : List Int} (h : Up V) {x : Int} (hx : x ∈ V) {k : Nat} (hk : IsRk V x k) : k < V.length ∧ V.getD k 0 = x := by
  obtain ⟨j, hj, e⟩ := List.getElem_of_mem hx
  have := rk_at h j hj
  rw [getD_at _ _ hj, e] at this
  obtain rfl := rk_uniq hk this
  exact ⟨hj, by rw [getD_at _ _ hj, e]⟩
/-- Ranks, one for each number. -/
def Rks (l V : List Int) (R : List Nat) : Prop := R.length = l.length ∧ ∀ i, i < l.length → IsRk V (l.getD i 0) (R.getD i 0)
attribute [irreducible] valL

end Go.Proofs.YtedchegejalolaaGreatDoor

/- Slices of bool. -/
namespace Go.Proofs.YtedchegejalolaaGreatDoor
set_option linter.unusedVariables false
open Go.RowKit

theorem info_bool : (Tryz.prog.info? 4).map (fun i => (i.zero, i.size, i.bytes)) = some (some (.bool false), 1, 1) := by kernel_rfl
theorem tBools : ElemTy Tryz.prog 112 4 1 1 (.bool false) :=
  ⟨Tryz.underlying112, by obtain ⟨i0, hi, h0, h1, h2⟩ := info_parts info_bool; exact ⟨i0, hi, h0, h1, h2⟩, rfl, by decide⟩
def bls (l : List Bool) : List Value := l.map .bool
theorem bls_length (l : List Bool) : (bls l).length = l.length := by simp [bls]
theorem bls_get (l : List Bool) (i : Nat) (h : i < (bls l).length) : (bls l)[i] = .bool (l[i]'(by simpa [bls] using h)) := by simp [bls]
theorem bls_set (l : List Bool) (i : Nat) (x : Bool) : (bls l).set i (.bool x) = bls (l.set i x) := by simp [bls, List.map_set]
/-- A slice of bool, n long, that reads as l. -/
def SlBo (w : World) (a : Option Addr) (n cap : Nat) (l : List Bool) : Prop := SlC w a n cap 1 (bls l)
theorem SlBo.at {w : World} {a : Option Addr} {n cap : Nat} {l : List Bool} (h : SlBo w a n cap l) (i : Nat) (hi : i < l.length) : ∃ b off, a = some ⟨b, off, none⟩ ∧ w.cell? ⟨b, off + i, none⟩ = some (.bool l[i]) := by
  obtain ⟨b, off, ha, hc⟩ := SlC.cell h i (by rw [bls_length]; exact hi)
  exact ⟨b, off, ha, by rw [hc, bls_get]⟩
theorem SlBo.len {w : World} {a : Option Addr} {n cap : Nat} {l : List Bool} (h : SlBo w a n cap l) : l.length = n := by
  have := h.hlen
  rw [bls_length] at this; omega
/-- A slice of bool of the call's own. -/
def OwnBo (B : Nat) (w : World) (a : Option Addr) (n cap : Nat) (l : List Bool) : Prop := w.ownsRow B 4 1 (.slice a n cap) n (bls l)
theorem OwnBo.sl {B : Nat} {w : World} {a : Option Addr} {n cap : Nat} {l : List Bool} (h : OwnBo B w a n cap l) : SlBo w a n cap l := own_slc h
theorem OwnBo.len {B : Nat} {w : World} {a : Option Addr} {n cap : Nat} {l : List Bool} (h : OwnBo B w a n cap l) : l.length = n := h.sl.len
end Go.Proofs.YtedchegejalolaaGreatDoor

/- Plain facts on numbers in words of 64 bits. -/
namespace Go.Proofs.YtedchegejalolaaGreatDoor
set_option linter.unusedVariables false

/-- Word j of a great number. -/
def wrd (N j : Nat) : Nat := N / 2 ^ (64 * j) % 2 ^ 64
def wordsOf (N m : Nat) : List Nat := (List.range m).map (wrd N)
theorem wordsOf_length (N m : Nat) : (wordsOf N m).length = m := by simp [wordsOf]
theorem wordsOf_get (N m j : Nat) (h : j < m) : (wordsOf N m)[j]? = some (wrd N j) := by simp [wordsOf, h]
theorem wrd_lt (N j : Nat) : wrd N j < 18446744073709551616 := Nat.mod_lt _ (by decide)
theorem wrd_or (A B j : Nat) : wrd (A ||| B) j = wrd A j ||| wrd B j := by
  unfold wrd
  rw [Nat.or_div_two_pow, Nat.or_mod_two_pow]
theorem wrd_zero (j : Nat) : wrd 0 j = 0 := by simp [wrd]

theorem wrd_low (n at' j : Nat) (h : j < at' / 64) : wrd (n * 2 ^ at') j = 0 := by
  unfold wrd
  have e : at' = 64 * j + (64 + (at' - 64 * j - 64)) := by omega
  rw [e, Nat.pow_add, show n * (2 ^ (64 * j) * 2 ^ (64 + (at' - 64 * j - 64))) = n * 2 ^ (64 + (at' - 64 * j - 64)) * 2 ^ (64 * j) by rw [Nat.mul_assoc, Nat.mul_comm (2 ^ (64 * j))], Nat.mul_div_cancel _ (Nat.pow_pos (by omega)), Nat.pow_add, ← Nat.mul_assoc, Nat.mul_comm n, Nat.mul_assoc, Nat.mul_mod_right]
theorem wrd_at (n at' : Nat) : wrd (n * 2 ^ at') (at' / 64) = n * 2 ^ (at' % 64) % 2 ^ 64 := by
  unfold wrd
  have e : n * 2 ^ at' = n * 2 ^ (at' % 64) * 2 ^ (64 * (at' / 64)) := by
    rw [Nat.mul_assoc, ← Nat.pow_add]; congr 2; omega
  rw [e, Nat.mul_div_cancel _ (Nat.pow_pos (by omega))]
theorem shl_div (n r s : Nat) : n * 2 ^ r / 2 ^ (s + r) = n / 2 ^ s := by
  rw [Nat.pow_add, Nat.mul_div_mul_right _ _ (Nat.pow_pos (by omega))]
theorem div_words (n q r : Nat) (k : Nat) : n * 2 ^ r * 2 ^ (64 * q) / 2 ^ (64 * q + k) = n * 2 ^ r / 2 ^ k := by
  rw [Nat.pow_add, ← Nat.div_div_eq_div_mul, Nat.mul_div_cancel _ (Nat.pow_pos (by omega))]
theorem wrd_up (n at' : Nat) (hr : 0 < at' % 64) (hn : n < 2 ^ 64) : wrd (n * 2 ^ at') (at' / 64 + 1) = n / 2 ^ (64 - at' % 64) := by
  unfold wrd
  have e : n * 2 ^ at' = n * 2 ^ (at' % 64) * 2 ^ (64 * (at' / 64)) := by
    rw [Nat.mul_assoc, ← Nat.pow_add]; congr 2; omega
  have e2 : 64 * (at' / 64 + 1) = 64 * (at' / 64) + (64 - at' % 64 + at' % 64) := by omega
  rw [e, e2, div_words, shl_div]
  exact Nat.mod_eq_of_lt (Nat.lt_of_le_of_lt (Nat.div_le_self _ _) hn)
theorem wrd_far (n at' j : Nat) (hj : at' / 64 + 1 < j ∨ (at' / 64 < j ∧ n * 2 ^ (at' % 64) < 2 ^ 64)) (hn : n < 2 ^ 64) : wrd (n * 2 ^ at') j = 0 := by
  unfold wrd
  have e : n * 2 ^ at' = n * 2 ^ (at' % 64) * 2 ^ (64 * (at' / 64)) := by
    rw [Nat.mul_assoc, ← Nat.pow_add]; congr 2; omega
  obtain ⟨d, hd⟩ : ∃ d, j = at' / 64 + 1 + d := ⟨j - (at' / 64 + 1), by omega⟩
  have e2 : 2 ^ (64 * j) = 2 ^ (64 * (at' / 64)) * 2 ^ (64 * (1 + d)) := by rw [← Nat.pow_add, hd]; congr 1; omega
  rw [e, e2, ← Nat.div_div_eq_div_mul, Nat.mul_div_cancel _ (Nat.pow_pos (by omega)), Nat.div_eq_of_lt, Nat.zero_mod]
  rcases hj with hj | ⟨_, hj⟩
  · have h1 : 2 ^ (at' % 64) ≤ 2 ^ 64 := Nat.pow_le_pow_right (by omega) (by omega)
    have h2 : n * 2 ^ (at' % 64) < 2 ^ 64 * 2 ^ 64 := Nat.mul_lt_mul_of_lt_of_le hn h1 (Nat.pow_pos (by omega))
    rw [← Nat.pow_add] at h2
    exact Nat.lt_of_lt_of_le h2 (Nat.pow_le_pow_right (by omega) (by omega))
  · exact Nat.lt_of_lt_of_le hj (Nat.pow_le_pow_right (by omega) (by omega))

theorem add_or (N n at' : Nat) (h : N < 2 ^ at') : N + n * 2 ^ at' = N ||| (n * 2 ^ at') := by
  have := Nat.two_pow_add_eq_or_of_lt h n
  rw [Nat.or_comm, Nat.mul_comm n, ← this]; omega

/-- Behind a number that was put at a bit. -/
theorem put_words (N n at' m : Nat) (h : N < 2 ^ at') (hn : n < 2 ^ 64) (hm : at' / 64 < m) (hup : 0 < n / 2 ^ (64 - at' % 64) → at' / 64 + 1 < m ∨ at' % 64 = 0) :
    wordsOf (N + n * 2 ^ at') m =
      (if 0 < at' % 64 ∧ 0 < n / 2 ^ (64 - at' % 64) then ((wordsOf N m).set (at' / 64) (wrd N (at' / 64) ||| n * 2 ^ (at' % 64) % 2 ^ 64)).set (at' / 64 + 1) (wrd N (at' / 64 + 1) ||| n / 2 ^ (64 - at' % 64))
       else (wordsOf N m).set (at' / 64) (wrd N (at' / 64) ||| n * 2 ^ (at' % 64) % 2 ^ 64)) := by
  apply List.ext_getElem?
  intro j
  have hl : ∀ X, (wordsOf X m).length = m := fun X => wordsOf_length X m
  by_cases hj : j < m
  · rw [wordsOf_get _ _ _ hj, add_or N n at' h, wrd_or]
    have hlow := wrd_low n at' j
    have hat := wrd_at n at'
    split
    · rename_i hc
      have hup1 := wrd_up n at' hc.1 hn
      rw [List.getElem?_set, List.length_set, hl, List.getElem?_set, hl]
      by_cases h1 : at' / 64 + 1 = j
      · rw [if_pos h1, if_pos (by omega), ← h1, hup1]
      · rw [if_neg h1]
        by_cases h2 : at' / 64 = j
        · rw [if_pos h2, if_pos (by omega), ← h2, hat]
        · rw [if_neg h2, wordsOf_get _ _ _ hj]
          by_cases h3 : j < at' / 64
          · rw [hlow h3, Nat.or_zero]
          · rw [wrd_far n at' j (.inl (by omega)) hn, Nat.or_zero]
    · rename_i hc
      rw [List.getElem?_set, hl]
      by_cases h2 : at' / 64 = j
      · rw [if_pos h2, if_pos (by omega), ← h2, hat]
      · rw [if_neg h2, wordsOf_get _ _ _ hj]
        by_cases h3 : j < at' / 64
        · rw [hlow h3, Nat.or_zero]
        · rw [wrd_far n at' j ?_ hn, Nat.or_zero]
          right
          refine ⟨by omega, ?_⟩
          by_cases hr : at' % 64 = 0
          · rw [hr]; simpa using hn
          · have h0 : n / 2 ^ (64 - at' % 64) = 0 := by
              apply Classical.byContradiction
              intro h0
              exact hc ⟨by omega, Nat.pos_of_ne_zero h0⟩
            have h4 : n < 2 ^ (64 - at' % 64) := by
              rcases Nat.div_eq_zero_iff.1 h0 with h | h
              · exact absurd h (Nat.ne_of_gt (Nat.pow_pos (by omega)))
              · exact h
            have h5 : n * 2 ^ (at' % 64) < 2 ^ (64 - at' % 64) * 2 ^ (at' % 64) := Nat.mul_lt_mul_of_pos_right h4 (Nat.pow_pos (by omega))
            rw [← Nat.pow_add, show 64 - at' % 64 + at' % 64 = 64 by omega] at h5
            exact h5
  · have : ∀ L : List Nat, L.length ≤ j → L[j]? = none := fun L h => List.getElem?_eq_none h
    rw [this _ (by rw [hl]; omega)]
    split <;> rw [this _ (by simp [hl]; omega)]

end Go.Proofs.YtedchegejalolaaGreatDoor

/- Plain facts on rows of bits as one great number. -/
namespace Go.Proofs.YtedchegejalolaaGreatDoor
set_option linter.unusedVariables false

def bitB (n r : Nat) : Bool := n / 2 ^ r % 2 == 1
theorem bitB_test (n r : Nat) : bitB n r = n.testBit r := by
  unfold bitB
  rw [Nat.testBit_eq_decide_div_mod_eq]
  rfl
theorem bitB_eq (n r y : Nat) (h : n / 2 ^ r % 2 = y) : (((y : Nat) : Int) == 1) = bitB n r := by
  unfold bitB
  rw [h]
  have : y = 0 ∨ y = 1 := by omega
  rcases this with rfl | rfl <;> rfl
def bwN (n : Nat) : Nat := (n + 63) / 64
def bitsN (l : List Bool) : Nat → Nat
  | 0 => 0
  | k + 1 => bitsN l k + (if l.getD k false then 1 else 0) * 2 ^ k
theorem bitsN_succ (l : List Bool) (k : Nat) : bitsN l (k + 1) = bitsN l k + (if l.getD k false then 1 else 0) * 2 ^ k := rfl
theorem bitsN_zero (l : List Bool) : bitsN l 0 = 0 := rfl
theorem bitsN_lt (l : List Bool) (k : Nat) : bitsN l k < 2 ^ k := by
  induction k with
  | zero => simp [bitsN]
  | succ k ih =>
    rw [bitsN_succ, Nat.pow_succ]
    split <;> omega
theorem bitsN_at (l : List Bool) (k i : Nat) (h : i < k) : bitB (bitsN l k) i = l.getD i false := by
  induction k with
  | zero => omega
  | succ k ih =>
    rw [bitsN_succ, bitB_test]
    have hlt := bitsN_lt l k
    by_cases hb : l.getD k false = true
    · rw [if_pos hb, Nat.one_mul]
      by_cases hik : i = k
      · subst hik
        rw [hb, Nat.add_comm, Nat.testBit_two_pow_add_eq, Nat.testBit_lt_two_pow hlt]
        rfl
      · rw [Nat.add_comm, Nat.testBit_two_pow_add_gt (by omega), ← bitB_test]
        exact ih (by omega)
    · rw [if_neg hb, Nat.zero_mul, Nat.add_zero]
      by_cases hik : i = k
      · subst hik
        rw [Nat.testBit_lt_two_pow hlt]
        simpa using hb
      · rw [← bitB_test]; exact ih (by omega)
theorem last_bits (N n : Nat) (hN : N < 2 ^ n) (hr : n % 64 ≠ 0) : wrd N (bwN n - 1) / 2 ^ (n % 64) = 0 := by
  have e : n = 64 * (bwN n - 1) + n % 64 := by unfold bwN; omega
  apply Nat.div_eq_of_lt
  unfold wrd
  refine Nat.lt_of_le_of_lt (Nat.mod_le _ _) ?_
  rw [Nat.div_lt_iff_lt_mul (Nat.pow_pos (by omega)), ← Nat.pow_add, Nat.add_comm, ← e]
  exact hN
/-- Behind one bit more. -/
theorem put_bit (N k m : Nat) (h : N < 2 ^ k) (hm : k / 64 < m) : wordsOf (N + 1 * 2 ^ k) m = (wordsOf N m).set (k / 64) (wrd N (k / 64) ||| 2 ^ (k % 64)) := by
  have h0 : 1 / 2 ^ (64 - k % 64) = 0 := Nat.div_eq_of_lt (Nat.one_lt_two_pow (by omega))
  rw [put_words N 1 k m h (by decide) hm (fun h => by omega), if_neg (by omega), Nat.one_mul]
  rw [Nat.mod_eq_of_lt (Nat.pow_lt_pow_right (by omega) (Nat.mod_lt _ (by omega)))]
attribute [irreducible] bitB bitsN
end Go.Proofs.YtedchegejalolaaGreatDoor


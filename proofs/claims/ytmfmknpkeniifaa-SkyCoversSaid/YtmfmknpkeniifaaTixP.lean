/- Plain facts on the greatest of a range. -/
import Derived.Test.YtmfmknpkeniifaaKeep
namespace Go.Proofs.Ytmfmknpkeniifaa
set_option linter.unusedVariables false

/-- The number at a place. -/
def at0 (l : List Int) (i : Nat) : Int := l.getD i 0
theorem at0_get {l : List Int} {i : Nat} (h : i < l.length) : at0 l i = l[i] := getD_at l 0 h
/-- Place t is the top of n places from a on. -/
def IsTop (l : List Int) (a n t : Nat) : Prop := a ≤ t ∧ t < a + n ∧ ∀ j, a ≤ j → j < a + n → at0 l j < at0 l t ∨ (at0 l j = at0 l t ∧ t ≤ j)
def tix (l : List Int) (i : Nat) : Nat → Nat
  | 0 => i
  | w + 1 => if at0 l (tix l i w) < at0 l (i + w) then i + w else tix l i w
theorem IsTop.uniq {l : List Int} {a n s t : Nat} (h : IsTop l a n s) (h' : IsTop l a n t) : s = t := by
  have h1 := h.2.2 t h'.1 h'.2.1
  have h2 := h'.2.2 s h.1 h.2.1
  omega
theorem IsTop.join {l : List Int} {a n b m s t N : Nat} (h : IsTop l a n s) (h' : IsTop l b m t) (h1 : a ≤ b) (h2 : b ≤ a + n) (h3 : a + n ≤ b + m) (hN : a + N = b + m) :
    IsTop l a N (if at0 l s < at0 l t then t else s) := by
  by_cases hc : at0 l s < at0 l t
  · rw [if_pos hc]
    refine ⟨by have := h'.1; omega, by have := h'.2.1; omega, fun j ha hb => ?_⟩
    by_cases hj : j < b
    · have := h.2.2 j ha (by omega); omega
    · exact h'.2.2 j (by omega) (by omega)
  · rw [if_neg hc]
    refine ⟨h.1, by have := h.2.1; omega, fun j ha hb => ?_⟩
    by_cases hj : j < a + n
    · exact h.2.2 j ha hj
    · have e1 := h'.2.2 j (by omega) (by omega)
      have e2 := h.2.1
      omega
theorem IsTop.one (l : List Int) (a : Nat) : IsTop l a 1 a := by
  refine ⟨Nat.le_refl _, by omega, fun j h1 h2 => ?_⟩
  obtain rfl : j = a := by omega
  omega
theorem tix_one (l : List Int) (a : Nat) : tix l a 1 = a := by
  simp [tix]
theorem tix_top (l : List Int) (a n : Nat) (h : 0 < n) : IsTop l a n (tix l a n) := by
  induction n with
  | zero => omega
  | succ n ih =>
    by_cases hn : n = 0
    · subst hn; rw [tix_one]; exact .one l a
    · exact (ih (by omega)).join (.one l (a + n)) (by omega) (by omega) (by omega) (by omega)
theorem tix_bd (l : List Int) (a n : Nat) (h : 0 < n) : a ≤ tix l a n ∧ tix l a n < a + n := ⟨(tix_top l a n h).1, (tix_top l a n h).2.1⟩
theorem IsTop.eq {l : List Int} {a n t : Nat} (h : IsTop l a n t) : t = tix l a n := h.uniq (tix_top l a n (by have := h.1; have := h.2.1; omega))
/-- The top of two parts that meet, or lie over each other. -/
theorem tix_join (l : List Int) (a n b m N : Nat) (hn : 0 < n) (hm : 0 < m) (h1 : a ≤ b) (h2 : b ≤ a + n) (h3 : a + n ≤ b + m) (hN : a + N = b + m) :
    (if at0 l (tix l a n) < at0 l (tix l b m) then tix l b m else tix l a n) = tix l a N :=
  ((tix_top l a n hn).join (tix_top l b m hm) h1 h2 h3 hN).eq

/-- Tops of all ranges of 2^k places. -/
def rowT (l : List Int) (k : Nat) : List Int := (List.range (l.length + 1 - 2 ^ k)).map fun i => (tix l i (2 ^ k) : Int)
theorem rowT_length (l : List Int) (k : Nat) : (rowT l k).length = l.length + 1 - 2 ^ k := by simp [rowT]
theorem rowT_get (l : List Int) (k i : Nat) (h : i < (rowT l k).length) : (rowT l k)[i] = (tix l i (2 ^ k) : Int) := by simp [rowT]
/-- How many rows. -/
def lvl (n : Nat) : Nat := if n = 0 then 0 else Nat.log2 n + 1
theorem lvl_lt (n : Nat) : n < 2 ^ lvl n := by
  unfold lvl
  by_cases h : n = 0
  · simp [h]
  · rw [if_neg h]; exact Nat.lt_log2_self
theorem lvl_le (n k : Nat) (h : k < lvl n) : 2 ^ k ≤ n := by
  unfold lvl at h
  by_cases h0 : n = 0
  · simp [h0] at h
  · rw [if_neg h0] at h
    exact Nat.le_trans (Nat.pow_le_pow_right (by omega) (by omega)) (Nat.log2_self_le h0)
theorem lvl_of (n k : Nat) (h : 2 ^ k ≤ n) : k < lvl n := by
  apply Classical.byContradiction
  intro hk
  have h1 := lvl_lt n
  have h2 := Nat.pow_le_pow_right (n := 2) (by omega) (show lvl n ≤ k by omega)
  omega
def rowsT (l : List Int) : List (List Int) := (List.range (lvl l.length)).map (rowT l)
theorem rowsT_length (l : List Int) : (rowsT l).length = lvl l.length := by simp [rowsT]
theorem rowsT_get (l : List Int) (k : Nat) (h : k < (rowsT l).length) : (rowsT l)[k] = rowT l k := by simp [rowsT]
theorem rowsT_take (l : List Int) (k : Nat) (h : k < lvl l.length) : (rowsT l).take (k + 1) = (rowsT l).take k ++ [rowT l k] := by
  rw [List.take_succ_eq_append_getElem (by rw [rowsT_length]; exact h), rowsT_get]
theorem lvl_small (n : Nat) (h : n ≤ 300) : lvl n ≤ 9 := by
  apply Classical.byContradiction
  intro hk
  have := lvl_le n 9 (by omega)
  omega
/-- A row begun: the first i of row k, the others not yet told. -/
def rowK (l : List Int) (k i : Nat) : List Int := (rowT l k).take i ++ List.replicate (l.length + 1 - 2 ^ k - i) 0
theorem rowK_length (l : List Int) (k i : Nat) (h : i ≤ l.length + 1 - 2 ^ k) : (rowK l k i).length = l.length + 1 - 2 ^ k := by
  simp [rowK, rowT_length]; omega
theorem rowK_zero (l : List Int) (k : Nat) : rowK l k 0 = List.replicate (l.length + 1 - 2 ^ k) 0 := by simp [rowK]
theorem rowK_all (l : List Int) (k : Nat) : rowK l k (l.length + 1 - 2 ^ k) = rowT l k := by
  simp only [rowK, Nat.sub_self, List.replicate_zero, List.append_nil]
  exact List.take_of_length_le (by rw [rowT_length]; exact Nat.le_refl _)
theorem rowK_set (l : List Int) (k i : Nat) (h : i < l.length + 1 - 2 ^ k) : (rowK l k i).set i (tix l i (2 ^ k)) = rowK l k (i + 1) := by
  have h1 : ((rowT l k).take i).length = i := by rw [List.length_take, rowT_length]; omega
  simp only [rowK]
  rw [List.set_append_right (h := by omega), h1, Nat.sub_self, show l.length + 1 - 2 ^ k - i = (l.length + 1 - 2 ^ k - (i + 1)) + 1 by omega, List.replicate_succ, List.set_cons_zero,
    List.take_succ_eq_append_getElem (by rw [rowT_length]; exact h), rowT_get, List.append_assoc]
  rfl
theorem tix_two (l : List Int) (k i : Nat) : (if at0 l (tix l i (2 ^ k)) < at0 l (tix l (i + 2 ^ k) (2 ^ k)) then tix l (i + 2 ^ k) (2 ^ k) else tix l i (2 ^ k)) = tix l i (2 ^ (k + 1)) := by
  have hp : 0 < 2 ^ k := Nat.pow_pos (by omega)
  exact tix_join l i (2 ^ k) (i + 2 ^ k) (2 ^ k) (2 ^ (k + 1)) hp hp (by omega) (by omega) (by omega) (by rw [Nat.pow_succ]; omega)

end Go.Proofs.Ytmfmknpkeniifaa

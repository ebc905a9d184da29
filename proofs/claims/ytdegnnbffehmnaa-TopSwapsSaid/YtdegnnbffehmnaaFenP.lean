/- Plain facts on sums from the first place on. -/
import Derived.Test.YtdegnnbffehmnaaKeep
namespace Go.Proofs.Ytdegnnbffehmnaa
set_option linter.unusedVariables false

def gN (i : Nat) : Nat := i &&& (i + 1)
def uN (i : Nat) : Nat := i ||| (i + 1)
/-- How far the parts of place j have been taken in, when the places below k have been. -/
def cN (j : Nat) : Nat → Nat
  | 0 => gN j
  | k + 1 => if uN k = j then k + 1 else cN j k
def okC (j : Nat) : Nat → Bool
  | 0 => true
  | k + 1 => okC j k && (uN k != j || cN j k == gN k)
/-- Both in one pass. -/
def wC (j : Nat) : Nat → Nat × Bool
  | 0 => (gN j, true)
  | k + 1 => let r := wC j k; if uN k = j then (k + 1, r.2 && (r.1 == gN k)) else (r.1, r.2)
theorem wC_eq (j : Nat) : ∀ k, wC j k = (cN j k, okC j k)
  | 0 => rfl
  | k + 1 => by
    have ih := wC_eq j k
    simp only [wC, cN, okC, ih]
    by_cases h : uN k = j
    · simp [h]
    · simp [h]
theorem fen_chk : (List.range 300).all (fun j => (wC j j).1 == j && (wC j j).2 && decide (j < uN j) && decide (gN (uN j) ≤ gN j) && decide (gN j ≤ j)) = true := by decide +kernel
theorem fen_chk2 : (List.range 300).all (fun i => (List.range 300).all fun j => !(decide (i < j) && decide (j < uN i)) || decide (i < gN j)) = true := by decide +kernel
theorem fen_chk3 : (List.range 301).all (fun a => (List.range 10).all fun e => (a % 2 ^ (e + 1) != 0) || gN (a + 2 ^ e - 1) == a) = true := by decide +kernel

theorem fen_at (j : Nat) (h : j < 300) : cN j j = j ∧ okC j j = true ∧ j < uN j ∧ gN (uN j) ≤ gN j ∧ gN j ≤ j := by
  have := List.all_eq_true.1 fen_chk j (List.mem_range.2 h)
  rw [wC_eq] at this
  simp only [Bool.and_eq_true, beq_iff_eq, decide_eq_true_eq] at this
  obtain ⟨⟨⟨⟨h1, h2⟩, h3⟩, h4⟩, h5⟩ := this
  exact ⟨h1, h2, h3, h4, h5⟩
theorem uN_gt (i : Nat) (h : i < 300) : i < uN i := (fen_at i h).2.2.1
theorem gN_le (i : Nat) (h : i < 300) : gN i ≤ i := (fen_at i h).2.2.2.2
theorem gN_uN (i : Nat) (h : i < 300) : gN (uN i) ≤ gN i := (fen_at i h).2.2.2.1
theorem between (i j : Nat) (hi : i < 300) (hj : j < 300) (h1 : i < j) (h2 : j < uN i) : i < gN j := by
  have := List.all_eq_true.1 (List.all_eq_true.1 fen_chk2 i (List.mem_range.2 hi)) j (List.mem_range.2 hj)
  simpa [h1, h2] using this
theorem gN_step (a e : Nat) (ha : a ≤ 300) (he : e < 10) (h : a % 2 ^ (e + 1) = 0) : gN (a + 2 ^ e - 1) = a := by
  have := List.all_eq_true.1 (List.all_eq_true.1 fen_chk3 a (List.mem_range.2 (by omega))) e (List.mem_range.2 he)
  simpa [h] using this
theorem okC_at (j : Nat) : ∀ k, okC j k = true → ∀ i, i < k → uN i = j → cN j i = gN i
  | 0, _, i, hi, _ => by omega
  | k + 1, h, i, hi, hu => by
    simp only [okC, Bool.and_eq_true] at h
    by_cases hik : i = k
    · subst hik
      have := h.2
      simpa [hu] using this
    · exact okC_at j k h.1 i (by omega) hu
theorem cN_at (j i : Nat) (hj : j < 300) (hi : i < j) (h : uN i = j) : cN j i = gN i := okC_at j j (fen_at j hj).2.1 i hi h
theorem cN_succ (j k : Nat) : cN j (k + 1) = if uN k = j then k + 1 else cN j k := rfl
theorem cN_past (j : Nat) (hj : j < 300) : ∀ d, j + d ≤ 300 → cN j (j + d) = j
  | 0, _ => (fen_at j hj).1
  | d + 1, h => by
    rw [← Nat.add_assoc, cN_succ, if_neg (by have := uN_gt (j + d) (by omega); omega)]
    exact cN_past j hj d (by omega)
theorem cN_full (j n : Nat) (hj : j < n) (hn : n ≤ 300) : cN j n = j := by
  have := cN_past j (by omega) (n - j) (by omega)
  rwa [show j + (n - j) = n by omega] at this

/-- The sum of the first k numbers. -/
def pre (l : List Int) (k : Nat) : Int := (l.take k).sum
theorem pre_zero (l : List Int) : pre l 0 = 0 := rfl
theorem pre_succ (l : List Int) (k : Nat) (h : k < l.length) : pre l (k + 1) = pre l k + l[k] := by
  unfold pre
  rw [List.take_succ_eq_append_getElem h, List.sum_append]; simp
theorem pre_bd (l : List Int) (M : Int) (h : ∀ x ∈ l, -M ≤ x ∧ x ≤ M) : ∀ b, b ≤ l.length → ∀ a, a ≤ b → -(M * (b - a : Nat)) ≤ pre l b - pre l a ∧ pre l b - pre l a ≤ M * (b - a : Nat)
  | 0, _, a, ha => by
    obtain rfl : a = 0 := by omega
    simp
  | b + 1, hb, a, ha => by
    by_cases hab : a = b + 1
    · subst hab; simp
    · have ih := pre_bd l M h b (by omega) a (by omega)
      have hx := h _ (List.getElem_mem (l := l) (n := b) (by omega))
      rw [pre_succ l b (by omega), show b + 1 - a = (b - a) + 1 by omega]
      push_cast
      rw [Int.mul_add, Int.mul_one]
      omega
theorem pre_set (l : List Int) (p : Nat) (by' : Int) (hp : p < l.length) : ∀ k, k ≤ l.length → pre (l.set p (l[p] + by')) k = pre l k + if p < k then by' else 0
  | 0, _ => by simp [pre_zero]
  | k + 1, hk => by
    rw [pre_succ _ k (by simp; omega), pre_succ l k (by omega), pre_set l p by' hp k (by omega), List.getElem_set]
    by_cases h1 : p = k
    · subst h1; simp; omega
    · rw [if_neg h1]
      by_cases h2 : p < k
      · rw [if_pos h2, if_pos (by omega)]; omega
      · rw [if_neg h2, if_neg (by omega)]; omega
theorem pre_mono (l : List Int) (h : ∀ x ∈ l, 0 ≤ x) (a : Nat) : ∀ b, a ≤ b → b ≤ l.length → pre l a ≤ pre l b
  | 0, h1, _ => by obtain rfl : a = 0 := by omega
                   exact Int.le_refl _
  | b + 1, h1, h2 => by
    by_cases hab : a = b + 1
    · subst hab; exact Int.le_refl _
    · have := pre_mono l h a b (by omega) (by omega)
      have hx := h _ (List.getElem_mem (l := l) (n := b) (by omega))
      rw [pre_succ l b (by omega)]; omega

/-- What stands at a place of the table. -/
def fenF (l : List Int) (j : Nat) : Int := pre l (j + 1) - pre l (gN j)
def treeOf (l : List Int) : List Int := (List.range l.length).map (fenF l)
theorem treeOf_length (l : List Int) : (treeOf l).length = l.length := by simp [treeOf]
theorem treeOf_get (l : List Int) (j : Nat) (h : j < (treeOf l).length) : (treeOf l)[j] = fenF l j := by simp [treeOf]
/-- The table when the places below k have been added to those above. -/
def mid (l : List Int) (k : Nat) : List Int := (List.range l.length).map fun j => l.getD j 0 + (pre l (cN j k) - pre l (gN j))
theorem mid_length (l : List Int) (k : Nat) : (mid l k).length = l.length := by simp [mid]
theorem mid_get (l : List Int) (k j : Nat) (h : j < (mid l k).length) : (mid l k)[j] = l.getD j 0 + (pre l (cN j k) - pre l (gN j)) := by simp [mid]
theorem mid_zero (l : List Int) : mid l 0 = l := by
  apply List.ext_getElem
  · simp [mid]
  · intro j h1 h2
    rw [mid_get]
    simp [cN, h2]
theorem fenF_eq (l : List Int) (j : Nat) (h : j < l.length) : fenF l j = l.getD j 0 + (pre l j - pre l (gN j)) := by
  unfold fenF
  rw [pre_succ l j h]
  simp [h]; omega
theorem mid_end (l : List Int) (h : l.length ≤ 300) : mid l l.length = treeOf l := by
  apply List.ext_getElem
  · simp [mid, treeOf]
  · intro j h1 h2
    rw [mid_get, treeOf_get, cN_full j l.length (by simpa [mid] using h1) h, fenF_eq l j (by simpa [mid] using h1)]
theorem mid_self (l : List Int) (k : Nat) (hk : k < l.length) (h : l.length ≤ 300) : (mid l k)[k]'(by simpa [mid] using hk) = fenF l k := by
  rw [mid_get, (fen_at k (by omega)).1, fenF_eq l k hk]
theorem mid_keep (l : List Int) (k : Nat) (hk : k < l.length) (hu : l.length ≤ uN k) : mid l (k + 1) = mid l k := by
  apply List.ext_getElem
  · simp [mid]
  · intro j h1 h2
    have hj : j < l.length := by simpa [mid] using h1
    rw [mid_get, mid_get, cN_succ, if_neg (by omega)]
theorem mid_step (l : List Int) (k : Nat) (hk : k < l.length) (h : l.length ≤ 300) (hu : uN k < l.length) :
    mid l (k + 1) = (mid l k).set (uN k) ((mid l k)[uN k]'(by simpa [mid] using hu) + (mid l k)[k]'(by simpa [mid] using hk)) := by
  apply List.ext_getElem
  · simp [mid]
  · intro j h1 h2
    have hj : j < l.length := by simpa [mid] using h1
    rw [List.getElem_set, mid_get, cN_succ]
    by_cases hc : uN k = j
    · subst hc
      rw [if_pos rfl, if_pos rfl, mid_get, cN_at (uN k) k (by omega) (uN_gt k (by omega)) rfl, mid_self l k hk h]
      unfold fenF
      omega
    · rw [if_neg hc, if_neg hc, mid_get]

/-- The table behind an addition at a place. -/
def addT (t : List Int) (p : Nat) (by' : Int) (i : Nat) : List Int := (List.range t.length).map fun j => t.getD j 0 + if gN j ≤ p ∧ p ≤ j ∧ j < i then by' else 0
theorem addT_length (t : List Int) (p : Nat) (b : Int) (i : Nat) : (addT t p b i).length = t.length := by simp [addT]
theorem addT_get (t : List Int) (p : Nat) (b : Int) (i j : Nat) (h : j < (addT t p b i).length) : (addT t p b i)[j] = t.getD j 0 + if gN j ≤ p ∧ p ≤ j ∧ j < i then b else 0 := by simp [addT]
theorem addT_start (t : List Int) (p : Nat) (b : Int) : addT t p b p = t := by
  apply List.ext_getElem
  · simp [addT]
  · intro j h1 h2
    rw [addT_get, if_neg (by omega)]
    simp [h2]
theorem addT_step (t : List Int) (p i : Nat) (b : Int) (hi : i < t.length) (h : t.length ≤ 300) (h1 : gN i ≤ p) (h2 : p ≤ i) :
    addT t p b (uN i) = (addT t p b i).set i ((addT t p b i)[i]'(by simpa [addT] using hi) + b) := by
  apply List.ext_getElem
  · simp [addT]
  · intro j hj1 hj2
    have hj : j < t.length := by simpa [addT] using hj1
    have hu := uN_gt i (by omega)
    rw [List.getElem_set, addT_get]
    by_cases hc : i = j
    · subst hc
      rw [if_pos rfl, addT_get, if_pos ⟨h1, h2, hu⟩, if_neg (by omega)]; omega
    · rw [if_neg hc, addT_get]
      by_cases hji : j < i
      · have e1 : j < uN i := by omega
        simp only [hji, e1]
      · have hbt : j < uN i → i < gN j := fun h3 => between i j (by omega) (by omega) (by omega) h3
        rw [if_neg (by omega)]
        by_cases h3 : j < uN i
        · have := hbt h3
          rw [if_neg (by omega)]
        · rw [if_neg (by omega)]
theorem addT_end (t : List Int) (p : Nat) (b : Int) (i : Nat) (h : t.length ≤ i) : addT t p b i = addT t p b 300 ∨ 300 < t.length := by
  by_cases hl : t.length ≤ 300
  · left
    apply List.ext_getElem
    · simp [addT]
    · intro j h1 h2
      have hj : j < t.length := by simpa [addT] using h1
      rw [addT_get, addT_get]
      have e1 : j < i := by omega
      have e2 : j < 300 := by omega
      simp only [e1, e2]
  · exact .inr (by omega)
theorem addT_tree (l : List Int) (p : Nat) (b : Int) (hp : p < l.length) (h : l.length ≤ 300) : addT (treeOf l) p b 300 = treeOf (l.set p (l[p] + b)) := by
  apply List.ext_getElem
  · simp [addT, treeOf]
  · intro j h1 h2
    have hj : j < l.length := by simpa [addT, treeOf] using h1
    have hg := gN_le j (by omega)
    rw [addT_get, treeOf_get]
    have e : (treeOf l).getD j 0 = fenF l j := by
      rw [getD_at _ _ (by rw [treeOf_length]; exact hj), treeOf_get]
    rw [e]
    unfold fenF
    rw [pre_set l p b hp (j + 1) (by omega), pre_set l p b hp (gN j) (by omega)]
    by_cases h1 : gN j ≤ p ∧ p ≤ j ∧ j < 300
    · rw [if_pos h1, if_pos (by omega), if_neg (by omega)]; omega
    · rw [if_neg h1]
      by_cases h2 : p < gN j
      · rw [if_pos (by omega), if_pos h2]; omega
      · rw [if_neg (by omega), if_neg h2]; omega
theorem fenF_bd (l : List Int) (M : Int) (hM : 0 ≤ M) (h : ∀ x ∈ l, -M ≤ x ∧ x ≤ M) (hl : l.length ≤ 300) (j : Nat) (hj : j < l.length) : -(M * 300) ≤ fenF l j ∧ fenF l j ≤ M * 300 := by
  have hg := gN_le j (by omega)
  have h1 := pre_bd l M h (j + 1) (by omega) (gN j) (by omega)
  have h2 : M * ((j + 1 - gN j : Nat) : Int) ≤ M * 300 := Int.mul_le_mul_of_nonneg_left (by omega) hM
  unfold fenF
  omega
theorem tree_bd (l : List Int) (M : Int) (hM : 0 ≤ M) (h : ∀ x ∈ l, -M ≤ x ∧ x ≤ M) (hl : l.length ≤ 300) : ∀ x ∈ treeOf l, -(M * 300) ≤ x ∧ x ≤ M * 300 := by
  intro x hx
  unfold treeOf at hx
  obtain ⟨j, hj, rfl⟩ := List.mem_map.1 hx
  exact fenF_bd l M hM h hl j (List.mem_range.1 hj)
theorem sum_step (l : List Int) (i : Nat) (h : 0 < i) : pre l i = fenF l (i - 1) + pre l (gN (i - 1)) := by
  unfold fenF
  rw [show i - 1 + 1 = i by omega]; omega
attribute [irreducible] gN uN cN pre fenF treeOf mid addT
end Go.Proofs.Ytdegnnbffehmnaa

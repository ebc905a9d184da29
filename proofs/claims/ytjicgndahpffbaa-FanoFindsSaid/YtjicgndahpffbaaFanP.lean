/- Package fano: plain. -/
import Derived.Test.YtjicgndahpffbaaRankP
namespace Go.Proofs.Ytjicgndahpffbaa
set_option linter.unusedVariables false

/-- The width of the lowest bits. -/
def wFrom (bound n : Nat) : Nat → Nat → Nat
  | 0, w => w
  | f + 1, w => if 0 < n ∧ n * 2 ^ (w + 1) ≤ bound then wFrom bound n f (w + 1) else w
def wdN (bound n : Nat) : Nat := wFrom bound n 30 0
theorem wFrom_spec (bound n : Nat) (hb : bound ≤ 1048576) : ∀ f w, w + f = 30 → w ≤ 20 → (0 < n → 0 < w → n * 2 ^ w ≤ bound) → (0 < n → bound < n * 2 ^ (wFrom bound n f w + 1)) ∧ wFrom bound n f w ≤ 20 ∧ w ≤ wFrom bound n f w := by
  intro f
  induction f with
  | zero => intro w h1 h2; omega
  | succ f ih =>
    intro w h1 h2 h3
    unfold wFrom
    by_cases h : 0 < n ∧ n * 2 ^ (w + 1) ≤ bound
    · rw [if_pos h]
      have hw : w + 1 ≤ 20 := by
        apply Classical.byContradiction
        intro hc
        have : 2 ^ 21 ≤ 2 ^ (w + 1) := Nat.pow_le_pow_right (by omega) (by omega)
        have := Nat.le_mul_of_pos_left (2 ^ (w + 1)) h.1
        omega
      obtain ⟨a, b, c⟩ := ih (w + 1) (by omega) hw (fun _ _ => h.2)
      exact ⟨a, b, by omega⟩
    · rw [if_neg h]
      refine ⟨fun h0 => ?_, h2, Nat.le_refl _⟩
      have : ¬ n * 2 ^ (w + 1) ≤ bound := fun h' => h ⟨h0, h'⟩
      omega
theorem wdN_le (bound n : Nat) (hb : bound ≤ 1048576) : wdN bound n ≤ 20 := (wFrom_spec bound n hb 30 0 rfl (by omega) (fun _ h => by omega)).2.1
theorem wdN_few (bound n : Nat) (hb : bound ≤ 1048576) (hn : 0 < n) : bound / 2 ^ wdN bound n < 2 * n := by
  have h := (wFrom_spec bound n hb 30 0 rfl (by omega) (fun _ h => by omega)).1 hn
  rw [Nat.div_lt_iff_lt_mul (Nat.pow_pos (by omega))]
  have e : n * 2 ^ (wdN bound n + 1) = 2 * n * 2 ^ wdN bound n := by rw [Nat.pow_succ, ← Nat.mul_assoc, Nat.mul_comm 2 n, Nat.mul_assoc, Nat.mul_assoc, Nat.mul_comm (2 ^ _)]
  rw [← e]; exact h
theorem wFrom_zero (bound f w : Nat) : wFrom bound 0 f w = w := by
  cases f with
  | zero => rfl
  | succ f => unfold wFrom; rw [if_neg (by omega)]
theorem wdN_zero (bound : Nat) : wdN bound 0 = 0 := wFrom_zero bound 30 0
/-- Place of the high bit of number i. -/
def hiP (W : Nat) (l : List Nat) (i : Nat) : Nat := l.getD i 0 / 2 ^ W + i
def hiK (W hn : Nat) (l : List Nat) : Nat → List Bool
  | 0 => List.replicate hn false
  | k + 1 => (hiK W hn l k).set (hiP W l k) true
theorem hiK_length (W hn : Nat) (l : List Nat) (k : Nat) : (hiK W hn l k).length = hn := by
  induction k with
  | zero => simp [hiK]
  | succ k ih => simp [hiK, ih]
theorem hiK_at (W hn : Nat) (l : List Nat) (p k : Nat) (hp : p < hn) : (hiK W hn l k).getD p false = true ↔ ∃ i, i < k ∧ p = hiP W l i := by
  induction k with
  | zero =>
    rw [getD_at _ _ (by rw [hiK_length]; exact hp)]
    simp [hiK]
  | succ k ih =>
    rw [getD_at _ _ (by rw [hiK_length]; exact hp)] at ih ⊢
    simp only [hiK]
    rw [List.getElem_set]
    by_cases h : hiP W l k = p
    · rw [if_pos h]
      exact ⟨fun _ => ⟨k, by omega, h.symm⟩, fun _ => rfl⟩
    · rw [if_neg h, ih]
      constructor
      · rintro ⟨i, h1, h2⟩; exact ⟨i, by omega, h2⟩
      · rintro ⟨i, h1, h2⟩
        refine ⟨i, ?_, h2⟩
        rcases Nat.lt_or_ge i k with h' | h'
        · exact h'
        · obtain rfl : i = k := by omega
          exact absurd h2.symm h
/-- Numbers that do not fall. -/
def Ris (l : List Nat) : Prop := ∀ i j, i ≤ j → j < l.length → l.getD i 0 ≤ l.getD j 0
theorem hiP_lt {W : Nat} {l : List Nat} (h : Ris l) {i j : Nat} (hij : i < j) (hj : j < l.length) : hiP W l i < hiP W l j := by
  have := Nat.div_le_div_right (c := 2 ^ W) (h i j (by omega) hj)
  unfold hiP
  omega
theorem hiP_top {W bound : Nat} {l : List Nat} (hb : ∀ i, i < l.length → l.getD i 0 ≤ bound) {i : Nat} (hi : i < l.length) : hiP W l i < bound / 2 ^ W + l.length + 1 := by
  have := Nat.div_le_div_right (c := 2 ^ W) (hb i hi)
  unfold hiP
  omega
/-- How many high bits stand ahead of a place. -/
theorem hi_count {W hn N : Nat} {l : List Nat} (h : Ris l) (hN : N = bitsN (hiK W hn l l.length) hn) : ∀ q, q ≤ hn → ∀ i, i ≤ l.length → (∀ j, j < i → hiP W l j < q) → (∀ j, i ≤ j → j < l.length → q ≤ hiP W l j) → pcn q N = i := by
  intro q
  induction q with
  | zero =>
    intro _ i _ h1 _
    rcases Nat.eq_zero_or_pos i with h0 | h0
    · rw [h0, pcn_none]
    · have := h1 0 h0; omega
  | succ q ih =>
    intro hq i hi h1 h2
    have hb : bitB N q = (hiK W hn l l.length).getD q false := by rw [hN]; exact bitsN_at _ _ _ (by omega)
    have hk := hiK_at W hn l q l.length (by omega)
    rw [pcn_succ, hb]
    cases hc : (hiK W hn l l.length).getD q false with
    | true =>
      obtain ⟨j, hj, e⟩ := hk.1 hc
      have hji : j < i := by
        rcases Nat.lt_or_ge j i with h' | h'
        · exact h'
        · have := h2 j h' hj; omega
      have hij : i = j + 1 := by
        rcases Nat.lt_or_ge (j + 1) i with h' | h'
        · have a := h1 (j + 1) h'
          have b := hiP_lt (W := W) h (show j < j + 1 by omega) (by omega)
          omega
        · omega
      rw [ih (by omega) j (by omega) (fun j' hj' => by rw [e]; exact hiP_lt h hj' hj) (fun j' hj' hl => by
        rw [e]
        rcases Nat.eq_or_lt_of_le hj' with e' | h'
        · rw [e']; exact Nat.le_refl _
        · exact Nat.le_of_lt (hiP_lt h h' hl))]
      simp [hij]
    | false =>
      have hne : ∀ j, j < l.length → q ≠ hiP W l j := fun j hj e => by
        have := hk.2 ⟨j, hj, e⟩
        rw [hc] at this; cases this
      rw [ih (by omega) i hi (fun j hj => by have := h1 j hj; have := hne j (by omega); omega) (fun j hj hl => by have := h2 j hj hl; omega)]
      simp
/-- The bit that is selected. -/
theorem hi_select {W hn N : Nat} {l : List Nat} (h : Ris l) (hN : N = bitsN (hiK W hn l l.length) hn) (ht : ∀ i, i < l.length → hiP W l i < hn) {i : Nat} (hi : i < l.length) :
    (∀ p, p < hn → bitB N p = true → pcn p N = i → p = hiP W l i) ∧ i < pcn hn N := by
  constructor
  · intro p hp hb hc
    rw [hN, bitsN_at _ _ _ hp] at hb
    obtain ⟨j, hj, e⟩ := (hiK_at W hn l p l.length hp).1 hb
    have := hi_count h hN p (by omega) j (by omega) (fun j' hj' => by rw [e]; exact hiP_lt h hj' hj) (fun j' hj' hl => by
      rw [e]
      rcases Nat.eq_or_lt_of_le hj' with e' | h'
      · rw [e']; exact Nat.le_refl _
      · exact Nat.le_of_lt (hiP_lt h h' hl))
    rw [e]
    congr 1
    omega
  · rw [hi_count h hN hn (Nat.le_refl _) l.length (Nat.le_refl _) (fun j hj => ht j hj) (fun j h1 h2 => by omega)]
    exact hi
def lowL (W : Nat) (l : List Nat) : List Nat := l.map fun x => x % 2 ^ W
theorem lowL_length (W : Nat) (l : List Nat) : (lowL W l).length = l.length := by simp [lowL]
theorem lowL_at (W : Nat) (l : List Nat) (i : Nat) (h : i < l.length) : (lowL W l).getD i 0 = l.getD i 0 % 2 ^ W := by
  rw [getD_at _ _ (by rw [lowL_length]; exact h), getD_at _ _ h]; simp [lowL]
theorem lowL_lt (W : Nat) (l : List Nat) (i : Nat) : (lowL W l).getD i 0 < 2 ^ W := by
  rcases Nat.lt_or_ge i l.length with h | h
  · rw [lowL_at W l i h]; exact Nat.mod_lt _ (Nat.pow_pos (by omega))
  · rw [List.getD_eq_getElem?_getD, List.getElem?_eq_none (by rw [lowL_length]; exact h)]; exact Nat.pow_pos (by omega)
theorem low_high (x W : Nat) : (x / 2 ^ W * 2 ^ W) ||| (x % 2 ^ W) = x := by
  have := Nat.two_pow_add_eq_or_of_lt (Nat.mod_lt x (Nat.pow_pos (show 0 < 2 by omega) (n := W))) (x / 2 ^ W)
  rw [Nat.mul_comm, ← this]
  exact Nat.div_add_mod _ _
theorem wFrom_le (bound n f w : Nat) (hb : bound ≤ 1048576) (h0 : 0 < n) (h : n * 2 ^ (w + 1) ≤ bound) : w + 1 ≤ 20 := by
  apply Classical.byContradiction
  intro hc
  have : 2 ^ 21 ≤ 2 ^ (w + 1) := Nat.pow_le_pow_right (by omega) (by omega)
  have := Nat.le_mul_of_pos_left (2 ^ (w + 1)) h0
  omega
theorem wFrom_succ (bound n f w : Nat) : wFrom bound n (f + 1) w = if 0 < n ∧ n * 2 ^ (w + 1) ≤ bound then wFrom bound n f (w + 1) else w := by
  conv => lhs; unfold wFrom
def loK (W : Nat) (l : List Nat) (n : Nat) : Nat → List Int
  | 0 => List.replicate n 0
  | k + 1 => (loK W l n k).set k ((l.getD k 0 % 2 ^ W : Nat) : Int)
theorem loK_length (W : Nat) (l : List Nat) (n k : Nat) : (loK W l n k).length = n := by
  induction k with
  | zero => simp [loK]
  | succ k ih => simp [loK, ih]
theorem loK_at (W : Nat) (l : List Nat) (n k i : Nat) (hk : k ≤ n) (hi : i < n) : (loK W l n k).getD i 0 = if i < k then ((l.getD i 0 % 2 ^ W : Nat) : Int) else 0 := by
  induction k with
  | zero => rw [getD_at _ _ (by rw [loK_length]; exact hi)]; simp [loK]
  | succ k ih =>
    have ih := ih (by omega)
    rw [getD_at _ _ (by rw [loK_length]; exact hi)] at ih ⊢
    simp only [loK]
    rw [List.getElem_set]
    by_cases h : k = i
    · subst h; simp
    · rw [if_neg h, ih]
      by_cases h2 : i < k
      · rw [if_pos h2, if_pos (by omega)]
      · rw [if_neg h2, if_neg (by omega)]
theorem loK_end (W : Nat) (l : List Nat) : loK W l l.length l.length = (lowL W l).map Int.ofNat := by
  apply List.ext_getElem
  · rw [loK_length, List.length_map, lowL_length]
  · intro i h1 h2
    rw [loK_length] at h1
    have a := loK_at W l l.length l.length i (Nat.le_refl _) h1
    rw [if_pos h1, getD_at _ _ (by rw [loK_length]; exact h1)] at a
    rw [a, ← lowL_at W l i h1, getD_at _ _ (by rw [lowL_length]; exact h1)]
    simp
theorem loK_succ (W : Nat) (l : List Nat) (n k : Nat) : loK W l n (k + 1) = (loK W l n k).set k ((l.getD k 0 % 2 ^ W : Nat) : Int) := rfl
theorem hiK_succ (W hn : Nat) (l : List Nat) (k : Nat) : hiK W hn l (k + 1) = (hiK W hn l k).set (hiP W l k) true := rfl
theorem hiP_eq (W : Nat) (l : List Nat) (i : Nat) : hiP W l i = l.getD i 0 / 2 ^ W + i := rfl
attribute [irreducible] loK wdN wFrom hiP hiK lowL

end Go.Proofs.Ytjicgndahpffbaa

/- Heaps: the plain facts. -/
import Derived.Test.YtlmdlholmlbcbaaMem
namespace Go.Proofs.Ytlmdlholmlbcbaa.Hp
set_option linter.unusedVariables false

/-- A strict order, as a heap needs it. -/
structure Ord (lt : Nat → Nat → Bool) : Prop where
  asym : ∀ a b, lt a b = true → lt b a = false
  tr : ∀ a b c, lt a b = false → lt b c = false → lt a c = false
def swp (X : List Nat) (i j : Nat) : List Nat := (X.set i (X.getD j 0)).set j (X.getD i 0)
theorem swp_length (X : List Nat) (i j : Nat) : (swp X i j).length = X.length := by simp [swp]
theorem swp_get (X : List Nat) (i j k : Nat) (hi : i < X.length) (hj : j < X.length) : (swp X i j).getD k 0 = if k = j then X.getD i 0 else if k = i then X.getD j 0 else X.getD k 0 := by
  unfold swp
  simp only [List.getD, List.getElem?_set, List.length_set]
  by_cases h1 : k = j
  · subst h1; simp [hj]
  · rw [if_neg (fun e => h1 e.symm), if_neg h1]
    by_cases h2 : k = i
    · subst h2; simp [hi]
    · rw [if_neg (fun e => h2 e.symm), if_neg h2]
theorem swp_perm (X : List Nat) (i j : Nat) (hi : i < X.length) (hj : j < X.length) : (swp X i j).Perm X := by
  unfold swp
  rw [getD_at X 0 hi, getD_at X 0 hj]
  exact List.set_set_perm hi hj
def par (k : Nat) : Nat := (k - 1) / 2
/-- From the places behind lo on it is a heap. -/
def HeapF (lt : Nat → Nat → Bool) (X : List Nat) (n lo : Nat) : Prop := ∀ k, 0 < k → k < n → lo ≤ par k → lt (X.getD k 0) (X.getD (par k) 0) = false
def UpInv (lt : Nat → Nat → Bool) (X : List Nat) (n j : Nat) : Prop :=
  (∀ k, 0 < k → k < n → k ≠ j → lt (X.getD k 0) (X.getD (par k) 0) = false) ∧ ∀ k, 0 < k → k < n → par k = j → 0 < j → lt (X.getD k 0) (X.getD (par j) 0) = false
theorem up_end {lt : Nat → Nat → Bool} {X : List Nat} {n j : Nat} (h : UpInv lt X n j) (he : j = 0 ∨ lt (X.getD j 0) (X.getD (par j) 0) = false) : HeapF lt X n 0 := by
  intro k h0 hk _
  by_cases e : k = j
  · subst e
    rcases he with he | he
    · omega
    · exact he
  · exact h.1 k h0 hk e
theorem up_step {lt : Nat → Nat → Bool} (O : Ord lt) {X : List Nat} {n j p : Nat} (hX : X.length = n) (h : UpInv lt X n j) (h0 : 0 < j) (hj : j < n) (hp : par j = p) (hlt : lt (X.getD j 0) (X.getD p 0) = true) : UpInv lt (swp X p j) n p := by
  have hpj : p < j := by unfold par at hp; omega
  have g := fun k => swp_get X p j k (by omega) (by omega)
  refine ⟨fun k k0 kn kp => ?_, fun k k0 kn kp p0 => ?_⟩
  · rw [g k, g (par k)]
    by_cases e1 : k = j
    · subst e1
      rw [if_pos rfl, hp, if_neg (by omega), if_pos rfl]
      exact O.asym _ _ hlt
    · rw [if_neg e1, if_neg kp]
      by_cases e2 : par k = j
      · rw [if_pos e2]
        have := h.2 k k0 kn e2 h0
        rwa [hp] at this
      · rw [if_neg e2]
        have hk := h.1 k k0 kn e1
        by_cases e3 : par k = p
        · rw [if_pos e3]
          rw [e3] at hk
          exact O.tr _ _ _ hk (O.asym _ _ hlt)
        · rw [if_neg e3]; exact hk
  · have hpp : par p < p := by unfold par; omega
    rw [g k, g (par p), if_neg (by omega : ¬ par p = j), if_neg (by omega : ¬ par p = p)]
    have h2 := h.1 p p0 (by omega) (by omega)
    by_cases e1 : k = j
    · rw [if_pos e1]; exact h2
    · have hkp : k ≠ p := fun e => by subst e; unfold par at kp; omega
      rw [if_neg e1, if_neg hkp]
      have h3 := h.1 k k0 kn e1
      rw [kp] at h3
      exact O.tr _ _ _ h3 h2
def DownInv (lt : Nat → Nat → Bool) (X : List Nat) (n lo i : Nat) : Prop :=
  lo ≤ i ∧ (∀ k, 0 < k → k < n → lo ≤ par k → par k ≠ i → lt (X.getD k 0) (X.getD (par k) 0) = false) ∧ ∀ k, 0 < k → k < n → par k = i → 0 < i → lo ≤ par i → lt (X.getD k 0) (X.getD (par i) 0) = false
theorem down_start {lt : Nat → Nat → Bool} {X : List Nat} {n lo : Nat} (h : HeapF lt X n (lo + 1)) : DownInv lt X n lo lo :=
  ⟨Nat.le_refl _, fun k h0 hk hl hne => h k h0 hk (by omega), fun k _ _ _ h0 hl => by unfold par at hl; omega⟩
theorem down_end {lt : Nat → Nat → Bool} {X : List Nat} {n lo i : Nat} (h : DownInv lt X n lo i) (he : ∀ k, 0 < k → k < n → par k = i → lt (X.getD k 0) (X.getD i 0) = false) : HeapF lt X n lo := by
  intro k h0 hk hl
  by_cases e : par k = i
  · rw [e]; exact he k h0 hk e
  · exact h.2.1 k h0 hk hl e
theorem down_step {lt : Nat → Nat → Bool} (O : Ord lt) {X : List Nat} {n lo i c : Nat} (hX : n ≤ X.length) (h : DownInv lt X n lo i) (hc0 : 0 < c) (hc : c < n) (hp : par c = i) (hlt : lt (X.getD c 0) (X.getD i 0) = true)
    (hmin : ∀ k, 0 < k → k < n → par k = i → lt (X.getD k 0) (X.getD c 0) = false) : DownInv lt (swp X i c) n lo c := by
  obtain ⟨hli, h1, h2⟩ := h
  have hic : i < c := by unfold par at hp; omega
  have g := fun k => swp_get X i c k (by omega) (by omega)
  refine ⟨by omega, fun k k0 kn kl kp => ?_, fun k k0 kn kp c0 cl => ?_⟩
  · rw [g k, g (par k), if_neg kp]
    by_cases e1 : par k = i
    · rw [if_pos e1]
      by_cases e2 : k = c
      · rw [if_pos e2]; exact O.asym _ _ hlt
      · have hki : k ≠ i := fun e => by subst e; unfold par at e1; omega
        rw [if_neg e2, if_neg hki]; exact hmin k k0 kn e1
    · rw [if_neg e1]
      by_cases e2 : k = c
      · subst e2; exact absurd hp e1
      · rw [if_neg e2]
        by_cases e3 : k = i
        · subst e3
          rw [if_pos rfl]
          exact h2 c hc0 hc hp k0 kl
        · rw [if_neg e3]; exact h1 k k0 kn kl e1
  · rw [hp, g k, g i, if_neg (by omega : ¬ i = c), if_pos rfl]
    have hkc : k ≠ c := fun e => by subst e; unfold par at kp; omega
    have hki : k ≠ i := fun e => by subst e; unfold par at kp; omega
    rw [if_neg hkc, if_neg hki]
    have := h1 k k0 kn (by omega) (by omega)
    rwa [kp] at this
/-- Nothing is ahead of the root. -/
theorem heap_root {lt : Nat → Nat → Bool} (O : Ord lt) {X : List Nat} {n : Nat} (h : HeapF lt X n 0) : ∀ k, k < n → lt (X.getD k 0) (X.getD 0 0) = false := by
  intro k
  induction k using Nat.strongRecOn with
  | _ k ih =>
    intro hk
    by_cases e : k = 0
    · subst e
      cases hl : lt (X.getD 0 0) (X.getD 0 0) with
      | false => rfl
      | true => have := O.asym _ _ hl; rw [hl] at this; exact this
    · have h1 := ih (par k) (by unfold par; omega) (by unfold par; omega)
      exact O.tr _ _ _ (h k (by omega) hk (Nat.zero_le _)) h1
theorem heap_none {lt : Nat → Nat → Bool} (X : List Nat) (n : Nat) : HeapF lt X n (n / 2) := fun k h0 hk hl => by unfold par at hl; omega
theorem push_up {lt : Nat → Nat → Bool} {X : List Nat} {n x : Nat} (hX : X.length = n) (h : HeapF lt X n 0) : UpInv lt (X ++ [x]) (n + 1) n := by
  have g : ∀ k, k < n → (X ++ [x]).getD k 0 = X.getD k 0 := fun k hk => by
    simp only [List.getD, List.getElem?_append_left (show k < X.length by omega)]
  refine ⟨fun k k0 kn kne => ?_, fun k k0 kn kp n0 => by unfold par at kp; omega⟩
  rw [g k (by omega), g (par k) (by unfold par; omega)]
  exact h k k0 (by omega) (Nat.zero_le _)
theorem pop_down {lt : Nat → Nat → Bool} {X : List Nat} {m : Nat} (hX : X.length = m + 1) (h : HeapF lt X (m + 1) 0) : DownInv lt (swp X 0 m) m 0 0 := by
  have g := fun k => swp_get X 0 m k (by omega) (by omega)
  refine ⟨Nat.le_refl _, fun k k0 km _ kne => ?_, fun k _ _ _ h0 => by omega⟩
  rw [g k, g (par k), if_neg (by omega), if_neg (by omega), if_neg (by unfold par; omega), if_neg kne]
  exact h k k0 (by omega) (Nat.zero_le _)

end Go.Proofs.Ytlmdlholmlbcbaa.Hp

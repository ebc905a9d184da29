/- Ranks: plain. -/
import Derived.Test.YteeeikninigeoaaDoorMem
import Derived.Lib.RowBridge
import Derived.Lib.SlicesCompact
namespace Go.Proofs.YteeeikninigeoaaDoor
set_option linter.unusedVariables false
open Go.Lib

/-- Rising, none twice. -/
def Up (l : List Int) : Prop := l.Pairwise (· < ·)
theorem compact_inv (zs : List Int) (hs : ∀ i j, i ≤ j → j < zs.length → zs.toArray[i]! ≤ zs.toArray[j]!) : ∀ m, m ≤ zs.length →
    Up (compactUpTo zs.toArray m) ∧ (∀ x, x ∈ compactUpTo zs.toArray m ↔ ∃ j, j < m ∧ zs.toArray[j]! = x) := by
  intro m
  induction m with
  | zero => intro _; refine ⟨by simp [compactUpTo, Up], fun x => by simp [compactUpTo]⟩
  | succ m ih =>
    intro hm
    obtain ⟨h1, h2⟩ := ih (by omega)
    rw [compactUpTo_succ]
    by_cases hk : keeps zs.toArray m = true
    · rw [if_pos hk]
      refine ⟨?_, fun x => ?_⟩
      · unfold Up
        rw [List.pairwise_append]
        refine ⟨h1, by simp, fun a ha b hb => ?_⟩
        rw [List.mem_singleton] at hb
        subst hb
        obtain ⟨j, hj, rfl⟩ := (h2 a).1 ha
        have hm0 : m ≠ 0 := by omega
        have hne : zs.toArray[m]! ≠ zs.toArray[m - 1]! := by
          unfold keeps at hk
          rw [decide_eq_true_eq] at hk
          rcases hk with h | h
          · exact absurd h hm0
          · exact h
        have a1 := hs j (m - 1) (by omega) (by omega)
        have a2 := hs (m - 1) m (by omega) (by omega)
        omega
      · rw [List.mem_append, h2, List.mem_singleton]
        constructor
        · rintro (⟨j, hj, e⟩ | e)
          · exact ⟨j, by omega, e⟩
          · exact ⟨m, by omega, e.symm⟩
        · rintro ⟨j, hj, e⟩
          by_cases hjm : j = m
          · subst hjm; exact .inr e.symm
          · exact .inl ⟨j, by omega, e⟩
    · rw [if_neg hk, List.append_nil]
      refine ⟨h1, fun x => ?_⟩
      rw [h2]
      have hm0 : m ≠ 0 := fun e => hk (by unfold keeps; rw [decide_eq_true_eq]; exact .inl e)
      have he : zs.toArray[m]! = zs.toArray[m - 1]! := by
        apply Classical.byContradiction
        intro h
        exact hk (keeps_pos h)
      constructor
      · rintro ⟨j, hj, e⟩; exact ⟨j, by omega, e⟩
      · rintro ⟨j, hj, e⟩
        by_cases hjm : j = m
        · subst hjm; exact ⟨j - 1, by omega, by rw [← he]; exact e⟩
        · exact ⟨j, by omega, e⟩
/-- The values of a list: sorted, each once. -/
def valL (l : List Int) : List Int := compact (l.mergeSort fun x y => decide (x ≤ y))
theorem msort_le (l : List Int) (i j : Nat) (hij : i ≤ j) (hj : j < (l.mergeSort fun x y => decide (x ≤ y)).length) : (l.mergeSort fun x y => decide (x ≤ y)).toArray[i]! ≤ (l.mergeSort fun x y => decide (x ≤ y)).toArray[j]! := by
  have h := List.pairwise_mergeSort (le := fun x y : Int => decide (x ≤ y)) (fun a b c h1 h2 => by simp at *; omega) (fun a b => by simp; omega) l
  rcases Nat.eq_or_lt_of_le hij with e | e
  · subst e; exact Int.le_refl _
  · have := List.pairwise_iff_getElem.1 h i j (by omega) hj e
    simp only [decide_eq_true_eq] at this
    have hi : i < (l.mergeSort fun x y => decide (x ≤ y)).length := by omega
    rw [getElem!_pos (l.mergeSort fun x y => decide (x ≤ y)).toArray i (by simpa using hi), getElem!_pos (l.mergeSort fun x y => decide (x ≤ y)).toArray j (by simpa using hj)]
    simpa using this
theorem valL_up (l : List Int) : Up (valL l) := (compact_inv _ (msort_le l) _ (Nat.le_refl _)).1
theorem valL_mem (l : List Int) (x : Int) : x ∈ valL l ↔ x ∈ l := by
  unfold valL compact
  rw [(compact_inv _ (msort_le l) _ (Nat.le_refl _)).2 x]
  have e : x ∈ l ↔ x ∈ (l.mergeSort fun x y => decide (x ≤ y)) := List.mem_mergeSort.symm
  rw [e]
  constructor
  · rintro ⟨j, hj, rfl⟩
    rw [getElem!_pos _ _ (by simpa using hj)]
    simp
  · intro h
    obtain ⟨j, hj, e⟩ := List.getElem_of_mem h
    exact ⟨j, hj, by rw [getElem!_pos _ _ (by simpa using hj)]; simpa using e⟩
theorem valL_length (l : List Int) : (valL l).length ≤ l.length := by
  unfold valL
  have := compact_length_le (l.mergeSort fun x y => decide (x ≤ y))
  rwa [List.length_mergeSort] at this
/-- Rank of a number among values. -/
def IsRk (V : List Int) (x : Int) (k : Nat) : Prop := k ≤ V.length ∧ (∀ i, i < k → V.getD i 0 < x) ∧ (k < V.length → x ≤ V.getD k 0)
theorem up_lt {V : List Int} (h : Up V) {i j : Nat} (hij : i < j) (hj : j < V.length) : V.getD i 0 < V.getD j 0 := by
  rw [getD_at _ _ (by omega), getD_at _ _ hj]
  exact List.pairwise_iff_getElem.1 h i j (by omega) hj hij
theorem up_le {V : List Int} (h : Up V) {i j : Nat} (hij : i ≤ j) (hj : j < V.length) : V.getD i 0 ≤ V.getD j 0 := by
  rcases Nat.eq_or_lt_of_le hij with e | e
  · rw [e]; exact Int.le_refl _
  · exact Int.le_of_lt (up_lt h e hj)
theorem rk_uniq {V : List Int} {x : Int} {a b : Nat} (ha : IsRk V x a) (hb : IsRk V x b) : a = b := by
  rcases Nat.lt_trichotomy a b with h | h | h
  · have h1 := hb.2.1 a h
    have h2 := ha.2.2 (by have := hb.1; omega)
    omega
  · exact h
  · have h1 := ha.2.1 b h
    have h2 := hb.2.2 (by have := ha.1; omega)
    omega
/-- The place of a number is its rank. -/
theorem rk_at {V : List Int} (h : Up V) (k : Nat) (hk : k < V.length) : IsRk V (V.getD k 0) k := ⟨by omega, fun i hi => up_lt h hi hk, fun _ => Int.le_refl _⟩
theorem rk_next {V : List Int} (h : Up V) (k : Nat) (hk : k < V.length) : IsRk V (V.getD k 0 + 1) (k + 1) := by
  refine ⟨hk, fun i hi => ?_, fun h1 => ?_⟩
  · have := up_le h (show i ≤ k by omega) hk
    omega
  · have := up_lt h (show k < k + 1 by omega) h1
    omega
theorem rk_get {V : List Int} (h : Up V) {x : Int} (hx : x ∈ V) {k : Nat} (hk : IsRk V x k) : k < V.length ∧ V.getD k 0 = x := by
  obtain ⟨j, hj, e⟩ := List.getElem_of_mem hx
  have := rk_at h j hj
  rw [getD_at _ _ hj, e] at this
  obtain rfl := rk_uniq hk this
  exact ⟨hj, by rw [getD_at _ _ hj, e]⟩
/-- Ranks, one for each number. -/
def Rks (l V : List Int) (R : List Nat) : Prop := R.length = l.length ∧ ∀ i, i < l.length → IsRk V (l.getD i 0) (R.getD i 0)
/-- What rises over the numbers below v is the row of them. -/
theorem up_range {U : List Int} (h : Up U) (v : Nat) (hm : ∀ x : Int, x ∈ U ↔ 0 ≤ x ∧ x < v) : U.length = v ∧ ∀ i, i < v → U.getD i 0 = i := by
  have key : ∀ i, i < U.length → (i : Int) ≤ U.getD i 0 := by
    intro i
    induction i with
    | zero => intro hi; have := (hm (U.getD 0 0)).1 (by rw [getD_at _ _ hi]; exact List.getElem_mem _); omega
    | succ i ih =>
      intro hi
      have h1 := ih (by omega)
      have h2 := up_lt h (show i < i + 1 by omega) hi
      omega
  have hall : ∀ i : Nat, i < v → i < U.length ∧ U.getD i 0 = i := by
    intro i
    induction i using Nat.strongRecOn with
    | ind i ih =>
      intro hi
      obtain ⟨j, hj, e⟩ := List.getElem_of_mem ((hm (i : Int)).2 ⟨by omega, by omega⟩)
      rw [← getD_at U 0 hj] at e
      have h1 := key j hj
      have hji : j ≤ i := by omega
      rcases Nat.eq_or_lt_of_le hji with e1 | e1
      · subst e1; exact ⟨hj, e⟩
      · have := (ih j e1 (by omega)).2
        omega
  refine ⟨?_, fun i hi => (hall i hi).2⟩
  rcases Nat.lt_or_ge v U.length with h1 | h1
  · have h2 := key v h1
    have h3 := (hm (U.getD v 0)).1 (by rw [getD_at _ _ h1]; exact List.getElem_mem _)
    omega
  · rcases Nat.eq_zero_or_pos v with h0 | h0
    · omega
    · have := (hall (v - 1) (by omega)).1; omega
attribute [irreducible] valL

end Go.Proofs.YteeeikninigeoaaDoor

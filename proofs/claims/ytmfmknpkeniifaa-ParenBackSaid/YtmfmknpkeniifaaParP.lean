/- Plain facts on brackets: their depth. -/
import Derived.Test.YtmfmknpkeniifaaKeep
namespace Go.Proofs.Ytmfmknpkeniifaa
set_option linter.unusedVariables false

/-- How deep one is ahead of place i (true: a bracket opens). -/
def ht : List Bool → Nat → Int
  | _, 0 => 0
  | [], _ + 1 => 0
  | x :: b, i + 1 => (if x then 1 else -1) + ht b i
theorem ht_zero (b : List Bool) : ht b 0 = 0 := by cases b <;> rfl
theorem ht_succ (b : List Bool) (i : Nat) (h : i < b.length) : ht b (i + 1) = ht b i + (if b[i] then 1 else -1) := by
  induction b generalizing i with
  | nil => simp at h
  | cons x b ih =>
    cases i with
    | zero => simp [ht, ht_zero]
    | succ i =>
      have := ih i (by simpa using h)
      simp only [ht, this, List.getElem_cons_succ]
      omega
theorem ht_append (b c : List Bool) (i : Nat) (h : i ≤ b.length) : ht (b ++ c) i = ht b i := by
  induction i with
  | zero => rw [ht_zero, ht_zero]
  | succ i ih => rw [ht_succ _ i (by simp; omega), ht_succ _ i (by omega), ih (by omega), List.getElem_append_left (by omega)]
theorem ht_append2 (b c : List Bool) (i : Nat) (h : i ≤ c.length) : ht (b ++ c) (b.length + i) = ht b b.length + ht c i := by
  induction i with
  | zero => rw [ht_zero, Nat.add_zero, ht_append _ _ _ (Nat.le_refl _)]; omega
  | succ i ih =>
    rw [← Nat.add_assoc, ht_succ _ _ (by simp; omega), ht_succ _ i (by omega), ih (by omega), List.getElem_append_right (by omega)]
    simp only [Nat.add_sub_cancel_left]
    omega
theorem ht_take (b : List Bool) (m i : Nat) (h : i ≤ m) (hm : m ≤ b.length) : ht (b.take m) i = ht b i := by
  conv => rhs; rw [← List.take_append_drop m b]
  rw [ht_append _ _ _ (by simp; omega)]
theorem ht_drop (b : List Bool) (m i : Nat) (h : m + i ≤ b.length) : ht (b.drop m) i = ht b (m + i) - ht b m := by
  have h1 := ht_append2 (b.take m) (b.drop m) i (by simp; omega)
  rw [List.take_append_drop, ht_take b m _ (by simp; omega) (by omega)] at h1
  have hl : (b.take m).length = m := by simp; omega
  rw [hl] at h1
  omega

def Bal (b : List Bool) : Prop := (∀ i, i ≤ b.length → 0 ≤ ht b i) ∧ ht b b.length = 0
/-- The brackets at p and q belong together. -/
def Pair (b : List Bool) (p q : Nat) : Prop := p < q ∧ q < b.length ∧ b.getD p false = true ∧ b.getD q true = false ∧ ht b (q + 1) = ht b p ∧ ∀ t, p < t → t ≤ q → ht b p < ht b t

theorem pair_inside {b : List Bool} {p q : Nat} (h : Pair b p q) : Bal ((b.take q).drop (p + 1)) := by
  obtain ⟨h1, h2, h3, h4, h5, h6⟩ := h
  have hp : b[p]'(by omega) = true := by simpa [show p < b.length by omega] using h3
  have hq : b[q] = false := by simpa [h2] using h4
  have e1 := ht_succ b p (by omega)
  have e2 := ht_succ b q h2
  rw [hp] at e1; rw [hq] at e2
  simp at e1 e2
  have hl : ((b.take q).drop (p + 1)).length = q - (p + 1) := by simp; omega
  have hh : ∀ i, i ≤ q - (p + 1) → ht ((b.take q).drop (p + 1)) i = ht b (p + 1 + i) - ht b (p + 1) := fun i hi => by
    rw [ht_drop _ _ _ (by simp; omega), ht_take _ _ _ (by omega) (by omega), ht_take _ _ _ (by omega) (by omega)]
  refine ⟨fun i hi => ?_, ?_⟩
  · rw [hl] at hi
    rw [hh i hi]
    have := h6 (p + 1 + i) (by omega) (by omega)
    omega
  · rw [hl, hh _ (Nat.le_refl _), show p + 1 + (q - (p + 1)) = q by omega]
    omega
theorem pair_outside {b : List Bool} (hb : Bal b) {p q : Nat} (h : Pair b p q) : Bal (b.take p ++ b.drop (q + 1)) := by
  obtain ⟨h1, h2, h3, h4, h5, h6⟩ := h
  have hl : (b.take p ++ b.drop (q + 1)).length = p + (b.length - (q + 1)) := by simp; omega
  have hlp : (b.take p).length = p := by simp; omega
  have hA : ∀ i, i ≤ p → ht (b.take p ++ b.drop (q + 1)) i = ht b i := fun i hi => by
    rw [ht_append _ _ _ (by omega), ht_take _ _ _ hi (by omega)]
  have hB : ∀ i, i ≤ b.length - (q + 1) → ht (b.take p ++ b.drop (q + 1)) (p + i) = ht b (q + 1 + i) := fun i hi => by
    have := ht_append2 (b.take p) (b.drop (q + 1)) i (by simp; omega)
    rw [hlp] at this
    rw [this, ht_take _ _ _ (Nat.le_refl _) (by omega), ht_drop _ _ _ (by omega)]
    omega
  refine ⟨fun i hi => ?_, ?_⟩
  · rw [hl] at hi
    by_cases hip : i ≤ p
    · rw [hA i hip]; exact hb.1 i (by omega)
    · have := hB (i - p) (by omega)
      rw [show p + (i - p) = i by omega] at this
      rw [this]; exact hb.1 _ (by omega)
  · rw [hl, hB _ (Nat.le_refl _), show q + 1 + (b.length - (q + 1)) = b.length by omega]
    exact hb.2

/-- What stands open ahead of place i: of each depth the last bracket that opened there. -/
def Open (b : List Bool) (i : Nat) (o : List Int) : Prop :=
  (o.length : Int) = ht b i ∧ ∀ j (hj : j < o.length), ∃ p : Nat, o[j] = (p : Int) ∧ p < i ∧ b.getD p false = true ∧ ht b p = (j : Int) ∧ ∀ t, p < t → t ≤ i → (j : Int) < ht b t

theorem open_nil (b : List Bool) : Open b 0 [] := ⟨by rw [ht_zero]; rfl, fun j hj => by simp at hj⟩
theorem open_push {b : List Bool} {i : Nat} {o : List Int} (h : Open b i o) (hi : i < b.length) (hb : b[i] = true) : Open b (i + 1) (o ++ [(i : Int)]) := by
  have e := ht_succ b i hi
  rw [hb] at e
  simp at e
  refine ⟨by rw [e, ← h.1]; simp, fun j hj => ?_⟩
  by_cases hjl : j < o.length
  · obtain ⟨p, h1, h2, h3, h4, h5⟩ := h.2 j hjl
    refine ⟨p, by rw [List.getElem_append_left hjl, h1], by omega, h3, h4, fun t ht1 ht2 => ?_⟩
    by_cases ht3 : t ≤ i
    · exact h5 t ht1 ht3
    · rw [show t = i + 1 by omega, e, ← h.1]; omega
  · have hjo : j = o.length := by simp at hj; omega
    subst hjo
    refine ⟨i, by simp, by omega, by simp [hi, hb], by rw [← h.1], fun t ht1 ht2 => ?_⟩
    rw [show t = i + 1 by omega, e, ← h.1]; omega
theorem open_pop {b : List Bool} {i : Nat} {o : List Int} (h : Open b i o) (hi : i < b.length) (hb : b[i] = false) (ho : 0 < o.length) :
    ∃ p : Nat, o[o.length - 1]'(by omega) = (p : Int) ∧ p < i ∧ Pair b p i ∧ Open b (i + 1) (o.take (o.length - 1)) := by
  have e := ht_succ b i hi
  rw [hb] at e
  simp at e
  obtain ⟨p, h1, h2, h3, h4, h5⟩ := h.2 (o.length - 1) (by omega)
  have h0 := h.1
  refine ⟨p, h1, h2, ⟨h2, hi, h3, by simp [hi, hb], by omega, fun t ht1 ht2 => by have := h5 t ht1 ht2; omega⟩, by simp; omega, fun j hj => ?_⟩
  simp at hj
  obtain ⟨p', g1, g2, g3, g4, g5⟩ := h.2 j (by omega)
  refine ⟨p', by rw [List.getElem_take, g1], by omega, g3, g4, fun t ht1 ht2 => ?_⟩
  by_cases ht3 : t ≤ i
  · exact g5 t ht1 ht3
  · rw [show t = i + 1 by omega]; omega

/-- What is known of the list of partners behind i places. -/
def Mat (b : List Bool) (i : Nat) (o : List Int) (m : List Int) : Prop :=
  m.length = b.length ∧ ∀ q, q < i → ((q : Int) ∈ o) ∨ ∃ p r : Nat, Pair b p r ∧ (p = q ∨ r = q) ∧ r < i ∧ m.getD p 0 = (r : Int) ∧ m.getD r 0 = (p : Int)
theorem pair_inj {b : List Bool} {p q p' q' : Nat} (h : Pair b p q) (h' : Pair b p' q') (e : p = p' ∨ q = q') : p = p' ∧ q = q' := by
  obtain ⟨a1, a2, a3, a4, a5, a6⟩ := h
  obtain ⟨c1, c2, c3, c4, c5, c6⟩ := h'
  rcases e with rfl | rfl
  · refine ⟨rfl, ?_⟩
    rcases Nat.lt_trichotomy q q' with hl | hl | hl
    · have := c6 (q + 1) (by omega) (by omega); omega
    · exact hl
    · have := a6 (q' + 1) (by omega) (by omega); omega
  · refine ⟨?_, rfl⟩
    rcases Nat.lt_trichotomy p p' with hl | hl | hl
    · have := a6 p' hl (by omega); omega
    · exact hl
    · have := c6 p hl (by omega); omega
theorem pair_apart {b : List Bool} {p q p' q' : Nat} (h : Pair b p q) (h' : Pair b p' q') : p ≠ q' := by
  intro e
  subst e
  have h1 := h.2.2.1
  have h2 := h'.2.2.2.1
  simp [show p < b.length from h'.2.1] at h1 h2
  rw [h1] at h2; cases h2

theorem mat_push {b : List Bool} {k : Nat} {o m : List Int} (h : Mat b k o m) : Mat b (k + 1) (o ++ [(k : Int)]) m := by
  refine ⟨h.1, fun q hq => ?_⟩
  by_cases hqk : q = k
  · left; rw [hqk]; simp
  · rcases h.2 q (by omega) with h' | ⟨p, r, h1, h2, h3, h4⟩
    · left; simp [h']
    · exact .inr ⟨p, r, h1, h2, by omega, h4⟩
theorem ht_le (b : List Bool) (i : Nat) (h : i ≤ b.length) : ht b i ≤ i := by
  induction i with
  | zero => rw [ht_zero]; simp
  | succ i ih =>
    rw [ht_succ b i (by omega)]
    have := ih (by omega)
    split <;> omega
theorem open_len {b : List Bool} {k : Nat} {o : List Int} (h : Open b k o) (hk : k ≤ b.length) : o.length ≤ k := by
  have h1 := ht_le b k hk
  have h2 := h.1
  omega
theorem mat_pop {b : List Bool} {k p : Nat} {o m : List Int} (h : Mat b k o m) (hO : Open b k o) (hP : Pair b p k) (hp : o.getD (o.length - 1) 0 = (p : Int)) (ho : 0 < o.length) :
    Mat b (k + 1) (o.take (o.length - 1)) ((m.set k (p : Int)).set p (k : Int)) := by
  have hlen := h.1
  have hkb := hP.2.1
  have hpk := hP.1
  refine ⟨by simp [hlen], fun q hq => ?_⟩
  have hnew : ∃ p' r' : Nat, Pair b p' r' ∧ (p' = p ∧ r' = k) ∧ r' < k + 1 ∧ ((m.set k (p : Int)).set p (k : Int)).getD p' 0 = (r' : Int) ∧ ((m.set k (p : Int)).set p (k : Int)).getD r' 0 = (p' : Int) := by
    refine ⟨p, k, hP, ⟨rfl, rfl⟩, by omega, ?_, ?_⟩
    · simp [hlen, show p < b.length by omega]
    · simp [hlen, show ¬ p = k by omega, hkb]
  obtain ⟨p1, r1, g1, ⟨rfl, rfl⟩, g3, g4, g5⟩ := hnew
  by_cases hqk : q = r1
  · exact .inr ⟨p1, r1, g1, .inr hqk.symm, g3, g4, g5⟩
  by_cases hqp : q = p1
  · exact .inr ⟨p1, r1, g1, .inl hqp.symm, g3, g4, g5⟩
  rcases h.2 q (by omega) with h' | ⟨p', r', h1, h2, h3, h4, h5⟩
  · left
    obtain ⟨j, hj, he⟩ := List.mem_iff_getElem.1 h'
    have hj2 : j ≠ o.length - 1 := by
      intro e
      subst e
      rw [List.getD_eq_getElem?_getD, List.getElem?_eq_getElem hj, Option.getD_some, he] at hp
      omega
    exact List.mem_take_iff_getElem.2 ⟨j, by omega, he⟩
  · have a1 : p' ≠ p1 := fun e => by have := (pair_inj h1 g1 (.inl e)).2; omega
    have a2 : r' ≠ p1 := fun e => pair_apart g1 h1 e.symm
    have a3 : p' ≠ r1 := fun e => by have := h1.1; omega
    refine .inr ⟨p', r', h1, h2, by omega, ?_, ?_⟩
    · rw [← h4]; simp [Ne.symm a1, Ne.symm a3]
    · rw [← h5]; simp [Ne.symm a2, show ¬ r1 = r' by omega]

end Go.Proofs.Ytmfmknpkeniifaa

/- Who is closest: the plain facts of the sweep. -/
import Derived.Test.YtlmdlholmlbcbaaNrP
namespace Go.Proofs.Ytlmdlholmlbcbaa.Hp
set_option linter.unusedVariables false

/-- A pair is no better than the one that is kept. -/
def NoBetter (d : Nat → Nat → Int) (A B : Nat) (a b : Nat) : Prop := d A B < d a b ∨ (d A B = d a b ∧ (A < min a b ∨ (A = min a b ∧ B ≤ max a b)))
/-- Which pairs of places were looked at, or passed over. -/
def Done (i q i' j' : Nat) : Prop := i' < j' ∧ (i' < i ∨ (i' = i ∧ j' < i + 1 + q))
structure CBest (d : Nat → Nat → Int) (Z : List Nat) (n i q A B : Nat) (least : Int) : Prop where
  ab : A < B
  bn : B < n
  is_ : d A B = least
  nn : 0 ≤ least
  all : ∀ i' j', j' < n → Done i q i' j' → NoBetter d A B (Z.getD i' 0) (Z.getD j' 0)
def CInv (d : Nat → Nat → Int) (Z : List Nat) (n i q A B : Nat) (least : Int) : Prop := (least = -1 ∧ i = 0 ∧ q = 0) ∨ CBest d Z n i q A B least
theorem cinv_start (d : Nat → Nat → Int) (Z : List Nat) (n : Nat) : CInv d Z n 0 0 0 0 (-1) := .inl ⟨rfl, rfl, rfl⟩
/-- A row is at its end. -/
theorem cinv_row {d : Nat → Nat → Int} {Z : List Nat} {n i q A B : Nat} {least : Int} (h : CInv d Z n i q A B least) (hq : n ≤ i + 1 + q) (h2 : 2 ≤ n) : CInv d Z n (i + 1) 0 A B least := by
  rcases h with ⟨h1, h3, h4⟩ | h
  · omega
  · refine .inr ⟨h.ab, h.bn, h.is_, h.nn, fun i' j' hj hd => h.all i' j' hj ⟨hd.1, ?_⟩⟩
    have := hd.2
    have := hd.1
    omega
/-- The rest of a row is too far on. -/
theorem cinv_break {d : Nat → Nat → Int} {c : Nat → Int} {Z : List Nat} {n i q A B : Nat} {least : Int} (h : CInv d Z n i q A B least) (h0 : 0 ≤ least) (hZ : Z.length = n) (hs : ∀ i j, i < j → j < n → c (Z.getD i 0) ≤ c (Z.getD j 0)) (hd : ∀ a b, (c b - c a) * (c b - c a) ≤ d a b)
    (hq : i + 1 + q < n) (hg : least < (c (Z.getD (i + 1 + q) 0) - c (Z.getD i 0)) * (c (Z.getD (i + 1 + q) 0) - c (Z.getD i 0))) : CInv d Z n (i + 1) 0 A B least := by
  rcases h with ⟨h1, h3, h4⟩ | h
  · omega
  · refine .inr ⟨h.ab, h.bn, h.is_, h.nn, fun i' j' hj hdn => ?_⟩
    have h1 := hdn.1
    have h2 := hdn.2
    by_cases hold : Done i q i' j'
    · exact h.all i' j' hj hold
    · have he : i' = i ∧ i + 1 + q ≤ j' := by unfold Done at hold; omega
      obtain ⟨rfl, hj'⟩ := he
      refine .inl ?_
      rw [h.is_]
      have h5 := hd (Z.getD i' 0) (Z.getD j' 0)
      have h6 := hs i' (i' + 1 + q) (by omega) hq
      have h7 : c (Z.getD (i' + 1 + q) 0) ≤ c (Z.getD j' 0) := by
        rcases Nat.lt_or_eq_of_le hj' with h8 | h8
        · exact hs _ _ h8 hj
        · rw [h8]; exact Int.le_refl _
      have h9 : (c (Z.getD (i' + 1 + q) 0) - c (Z.getD i' 0)) * (c (Z.getD (i' + 1 + q) 0) - c (Z.getD i' 0)) ≤ (c (Z.getD j' 0) - c (Z.getD i' 0)) * (c (Z.getD j' 0) - c (Z.getD i' 0)) :=
        Int.mul_le_mul (by omega) (by omega) (by omega) (by omega)
      omega
/-- One more pair: it is better, or not. -/
theorem cinv_step {d : Nat → Nat → Int} {Z : List Nat} {n i q A B : Nat} {least : Int} (h : CInv d Z n i q A B least) (hsym : ∀ a b, d a b = d b a) (hnn : ∀ a b, 0 ≤ d a b) (hq : i + 1 + q < n) (hZn : ∀ i, i < n → Z.getD i 0 < n) (hne : Z.getD i 0 ≠ Z.getD (i + 1 + q) 0) :
    let a := Z.getD i 0
    let b := Z.getD (i + 1 + q) 0
    ((least < 0 ∨ d a b < least ∨ (d a b = least ∧ (min a b < A ∨ (min a b = A ∧ max a b < B)))) → CInv d Z n i (q + 1) (min a b) (max a b) (d a b)) ∧
    (¬ (least < 0 ∨ d a b < least ∨ (d a b = least ∧ (min a b < A ∨ (min a b = A ∧ max a b < B)))) → CInv d Z n i (q + 1) A B least) := by
  intro a b
  have ha : a < n := hZn i (by omega)
  have hb : b < n := hZn _ hq
  have hab : a ≠ b := hne
  have hmm : d (min a b) (max a b) = d a b := by
    by_cases e : a ≤ b
    · rw [Nat.min_eq_left e, Nat.max_eq_right e]
    · rw [Nat.min_eq_right (by omega), Nat.max_eq_left (by omega)]; exact hsym _ _
  refine ⟨fun hc => ?_, fun hc => ?_⟩
  · refine .inr ⟨by omega, by omega, hmm, hnn a b, fun i' j' hj hdn => ?_⟩
    unfold NoBetter
    rw [hmm]
    by_cases hold : Done i q i' j'
    · rcases h with ⟨h1, h3, h4⟩ | h
      · exfalso; unfold Done at hold; omega
      · have h5 := h.all i' j' hj hold
        have h6 := h.is_
        have h7 := h.nn
        unfold NoBetter at h5
        rw [h6] at h5
        omega
    · have he : i' = i ∧ j' = i + 1 + q := by unfold Done at hold hdn; omega
      obtain ⟨rfl, rfl⟩ := he
      exact .inr ⟨rfl, .inr ⟨rfl, Nat.le_refl _⟩⟩
  · rcases h with ⟨h1, h3, h4⟩ | h
    · exact absurd (.inl (by omega)) hc
    · refine .inr ⟨h.ab, h.bn, h.is_, h.nn, fun i' j' hj hdn => ?_⟩
      by_cases hold : Done i q i' j'
      · exact h.all i' j' hj hold
      · have he : i' = i ∧ j' = i + 1 + q := by unfold Done at hold hdn; omega
        obtain ⟨rfl, rfl⟩ := he
        unfold NoBetter
        rw [h.is_]
        have h7 := h.nn
        show least < d a b ∨ (least = d a b ∧ (A < min a b ∨ (A = min a b ∧ B ≤ max a b)))
        generalize d a b = dd at *
        generalize min a b = mn at *
        generalize max a b = mx at *
        omega
theorem cinv_end {d : Nat → Nat → Int} {Z : List Nat} {n A B : Nat} {least : Int} (h : CInv d Z n n 0 A B least) (hsym : ∀ a b, d a b = d b a) (h2 : 2 ≤ n) (hZ : Z.Perm (List.range n)) : IsClosest d n A B ∧ d A B = least := by
  rcases h with ⟨h1, h3, h4⟩ | h
  · omega
  · refine ⟨⟨h.ab, h.bn, fun a b hab hbn => ?_⟩, h.is_⟩
    have hl : Z.length = n := by rw [hZ.length_eq, List.length_range]
    have pos : ∀ x, x < n → ∃ i, i < n ∧ Z.getD i 0 = x := fun x hx => by
      obtain ⟨i, hi, e⟩ := List.getElem_of_mem (hZ.mem_iff.2 (List.mem_range.2 hx))
      exact ⟨i, by omega, by rw [getD_at Z 0 hi]; exact e⟩
    obtain ⟨i, hi, ei⟩ := pos a (by omega)
    obtain ⟨j, hj, ej⟩ := pos b hbn
    have key : ∀ i j, i < j → j < n → ∀ a b, a < b → ((Z.getD i 0 = a ∧ Z.getD j 0 = b) ∨ (Z.getD i 0 = b ∧ Z.getD j 0 = a)) → d A B < d a b ∨ (d A B = d a b ∧ (A < a ∨ (A = a ∧ B ≤ b))) := by
      intro i j hij hj a b hab hor
      have h5 := h.all i j hj ⟨hij, .inl (by omega)⟩
      unfold NoBetter at h5
      rcases hor with ⟨e1, e2⟩ | ⟨e1, e2⟩
      · rw [e1, e2, Nat.min_eq_left (by omega), Nat.max_eq_right (by omega)] at h5; exact h5
      · rw [e1, e2, Nat.min_eq_right (by omega), Nat.max_eq_left (by omega), hsym b a] at h5; exact h5
    rcases Nat.lt_trichotomy i j with h6 | h6 | h6
    · exact key i j h6 hj a b hab (.inl ⟨ei, ej⟩)
    · subst h6; omega
    · exact key j i h6 hi a b hab (.inr ⟨ej, ei⟩)

end Go.Proofs.Ytlmdlholmlbcbaa.Hp

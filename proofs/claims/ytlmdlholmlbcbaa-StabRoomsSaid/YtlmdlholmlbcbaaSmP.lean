/- Merging in place: the plain facts. -/
import Derived.Test.YtlmdlholmlbcbaaKeep
namespace Go.Proofs.Ytlmdlholmlbcbaa
set_option linter.unusedVariables false

/-- A row that does not fall, by a key. -/
def Up (key : Nat → Int) (l : List Nat) : Prop := l.Pairwise (fun x y => key x ≤ key y)
theorem up_append {key : Nat → Int} {A B : List Nat} : Up key (A ++ B) ↔ Up key A ∧ Up key B ∧ ∀ x ∈ A, ∀ y ∈ B, key x ≤ key y := List.pairwise_append
/-- Two elements exchanged. -/
theorem swap_two (P M S : List Nat) (x y : Nat) (i j : Nat) (hi : P.length = i) (hj : P.length + 1 + M.length = j) :
    ((P ++ x :: (M ++ y :: S)).set i y).set j x = P ++ y :: (M ++ x :: S) := by
  subst hi; subst hj
  rw [List.set_append_right _ _ (Nat.le_refl _), Nat.sub_self, List.set_cons_zero]
  rw [List.set_append_right _ _ (by omega), show P.length + 1 + M.length - P.length = M.length + 1 by omega, List.set_cons_succ]
  rw [List.set_append_right _ _ (Nat.le_refl _), Nat.sub_self, List.set_cons_zero]
theorem two_at (P M S : List Nat) (x y : Nat) (i j : Nat) (hi : P.length = i) (hj : P.length + 1 + M.length = j) :
    (P ++ x :: (M ++ y :: S)).getD i 0 = x ∧ (P ++ x :: (M ++ y :: S)).getD j 0 = y := by
  subst hi; subst hj
  constructor
  · rw [getD_at _ _ (by simp), List.getElem_append_right (Nat.le_refl _)]; simp
  · rw [getD_at _ _ (by simp; omega), List.getElem_append_right (by omega)]
    simp only [show P.length + 1 + M.length - P.length = M.length + 1 by omega, List.getElem_cons_succ]
    rw [List.getElem_append_right (Nat.le_refl _)]; simp
/-- The row behind i exchanges of two parts. -/
def swR (P A M B S : List Nat) (i : Nat) : List Nat := P ++ (B.take i ++ A.drop i) ++ M ++ (A.take i ++ B.drop i) ++ S
theorem swR_zero (P A M B S : List Nat) : swR P A M B S 0 = P ++ A ++ M ++ B ++ S := by simp [swR]
theorem swR_end (P A M B S : List Nat) (h : A.length = B.length) : swR P A M B S A.length = P ++ B ++ M ++ A ++ S := by
  unfold swR
  rw [List.take_of_length_le (by omega), List.drop_of_length_le (Nat.le_refl _), List.take_of_length_le (Nat.le_refl _), List.drop_of_length_le (by omega)]
  simp
theorem swR_form (P A M B S : List Nat) (i : Nat) (hA : i < A.length) (hB : i < B.length) :
    swR P A M B S i = (P ++ B.take i) ++ A[i] :: ((A.drop (i + 1) ++ M ++ A.take i) ++ B[i] :: (B.drop (i + 1) ++ S)) ∧
    swR P A M B S (i + 1) = (P ++ B.take i) ++ B[i] :: ((A.drop (i + 1) ++ M ++ A.take i) ++ A[i] :: (B.drop (i + 1) ++ S)) := by
  unfold swR
  have e1 : A.drop i = A[i] :: A.drop (i + 1) := (List.getElem_cons_drop ..).symm
  have e2 : B.drop i = B[i] :: B.drop (i + 1) := (List.getElem_cons_drop ..).symm
  constructor
  · rw [e1, e2]; simp only [List.append_assoc, List.cons_append]
  · rw [List.take_succ_eq_append_getElem hA, List.take_succ_eq_append_getElem hB]; simp only [List.append_assoc, List.cons_append, List.nil_append]
theorem swR_step (P A M B S : List Nat) (i : Nat) (hA : i < A.length) (hB : i < B.length) (a b : Nat) (ha : P.length + i = a) (hb : P.length + A.length + M.length + i = b) :
    (swR P A M B S i).getD a 0 = A[i] ∧ (swR P A M B S i).getD b 0 = B[i] ∧ ((swR P A M B S i).set a B[i]).set b A[i] = swR P A M B S (i + 1) := by
  obtain ⟨h1, h2⟩ := swR_form P A M B S i hA hB
  have l1 : (P ++ B.take i).length = a := by simp; omega
  have l2 : (P ++ B.take i).length + 1 + (A.drop (i + 1) ++ M ++ A.take i).length = b := by simp; omega
  rw [h1, h2]
  obtain ⟨g1, g2⟩ := two_at (P ++ B.take i) (A.drop (i + 1) ++ M ++ A.take i) (B.drop (i + 1) ++ S) A[i] B[i] a b l1 l2
  exact ⟨g1, g2, swap_two _ _ _ _ _ a b l1 l2⟩
theorem swR_length (P A M B S : List Nat) (i : Nat) (hA : i ≤ A.length) (h : A.length = B.length) : (swR P A M B S i).length = (P ++ A ++ M ++ B ++ S).length := by
  unfold swR; simp; omega
theorem swR_perm (P A M B S : List Nat) : (P ++ B ++ M ++ A ++ S).Perm (P ++ A ++ M ++ B ++ S) := by
  refine (List.Perm.append_right S ?_)
  simp only [List.append_assoc]
  refine List.Perm.append_left P ?_
  exact (List.perm_append_comm_assoc B M A).trans ((List.Perm.append_left M List.perm_append_comm).trans (List.perm_append_comm_assoc M A B))
/-- The two ends of a search in two rows that do not fall: what stands on either side of the cut. -/
theorem merge_cut {key : Nat → Int} {L R : List Nat} (hL : Up key L) (hR : Up key R) (s e : Nat) (hs : s ≤ L.length) (he : e ≤ R.length)
    (h1 : s = 0 ∨ e = R.length ∨ key (L.getD (s - 1) 0) ≤ key (R.getD e 0)) (h2 : e = 0 ∨ s = L.length ∨ key (R.getD (e - 1) 0) < key (L.getD s 0)) :
    ∀ x ∈ L.take s ++ R.take e, ∀ y ∈ L.drop s ++ R.drop e, key x ≤ key y := by
  have pL : ∀ i j, i < j → j < L.length → key (L.getD i 0) ≤ key (L.getD j 0) := fun i j h h' => by
    rw [getD_at _ _ (by omega), getD_at _ _ h']; exact List.pairwise_iff_getElem.1 hL i j (by omega) h' h
  have pR : ∀ i j, i < j → j < R.length → key (R.getD i 0) ≤ key (R.getD j 0) := fun i j h h' => by
    rw [getD_at _ _ (by omega), getD_at _ _ h']; exact List.pairwise_iff_getElem.1 hR i j (by omega) h' h
  have mL : ∀ x ∈ L.take s, ∃ i, i < s ∧ i < L.length ∧ x = L.getD i 0 := fun x hx => by
    obtain ⟨i, hi, rfl⟩ := List.getElem_of_mem hx
    rw [List.length_take] at hi
    exact ⟨i, by omega, by omega, by rw [List.getElem_take, getD_at _ _ (by omega)]⟩
  have mR : ∀ x ∈ R.take e, ∃ i, i < e ∧ i < R.length ∧ x = R.getD i 0 := fun x hx => by
    obtain ⟨i, hi, rfl⟩ := List.getElem_of_mem hx
    rw [List.length_take] at hi
    exact ⟨i, by omega, by omega, by rw [List.getElem_take, getD_at _ _ (by omega)]⟩
  have dL : ∀ x ∈ L.drop s, ∃ i, s ≤ i ∧ i < L.length ∧ x = L.getD i 0 := fun x hx => by
    obtain ⟨i, hi, rfl⟩ := List.getElem_of_mem hx
    rw [List.length_drop] at hi
    exact ⟨s + i, by omega, by omega, by rw [List.getElem_drop, getD_at _ _ (by omega)]⟩
  have dR : ∀ x ∈ R.drop e, ∃ i, e ≤ i ∧ i < R.length ∧ x = R.getD i 0 := fun x hx => by
    obtain ⟨i, hi, rfl⟩ := List.getElem_of_mem hx
    rw [List.length_drop] at hi
    exact ⟨e + i, by omega, by omega, by rw [List.getElem_drop, getD_at _ _ (by omega)]⟩
  intro x hx y hy
  rcases List.mem_append.1 hx with hx | hx
  · obtain ⟨i, hi, hi2, rfl⟩ := mL x hx
    rcases List.mem_append.1 hy with hy | hy
    · obtain ⟨j, hj, hj2, rfl⟩ := dL y hy
      exact pL i j (by omega) hj2
    · obtain ⟨j, hj, hj2, rfl⟩ := dR y hy
      rcases h1 with h | h | h
      · omega
      · omega
      · have a1 : key (L.getD i 0) ≤ key (L.getD (s - 1) 0) := by
          by_cases q : i = s - 1
          · rw [q]; exact Int.le_refl _
          · exact pL i (s - 1) (by omega) (by omega)
        have a2 : key (R.getD e 0) ≤ key (R.getD j 0) := by
          by_cases q : e = j
          · rw [q]; exact Int.le_refl _
          · exact pR e j (by omega) hj2
        omega
  · obtain ⟨i, hi, hi2, rfl⟩ := mR x hx
    rcases List.mem_append.1 hy with hy | hy
    · obtain ⟨j, hj, hj2, rfl⟩ := dL y hy
      rcases h2 with h | h | h
      · omega
      · omega
      · have a1 : key (R.getD i 0) ≤ key (R.getD (e - 1) 0) := by
          by_cases q : i = e - 1
          · rw [q]; exact Int.le_refl _
          · exact pR i (e - 1) (by omega) (by omega)
        have a2 : key (L.getD s 0) ≤ key (L.getD j 0) := by
          by_cases q : s = j
          · rw [q]; exact Int.le_refl _
          · exact pL s j (by omega) hj2
        omega
    · obtain ⟨j, hj, hj2, rfl⟩ := dR y hy
      exact pR i j (by omega) hj2
/-- Both halves in order: the whole is. -/
theorem up_halves {key : Nat → Int} {L R M1 M2 : List Nat} {s e : Nat} (h : ∀ x ∈ L.take s ++ R.take e, ∀ y ∈ L.drop s ++ R.drop e, key x ≤ key y)
    (p1 : M1.Perm (L.take s ++ R.take e)) (p2 : M2.Perm (L.drop s ++ R.drop e)) (u1 : Up key M1) (u2 : Up key M2) : Up key (M1 ++ M2) ∧ (M1 ++ M2).Perm (L ++ R) := by
  refine ⟨up_append.2 ⟨u1, u2, fun x hx y hy => h x (p1.mem_iff.1 hx) y (p2.mem_iff.1 hy)⟩, ?_⟩
  refine (List.Perm.append p1 p2).trans ?_
  have e1 : L ++ R = (L.take s ++ L.drop s) ++ (R.take e ++ R.drop e) := by rw [List.take_append_drop, List.take_append_drop]
  rw [e1]
  simp only [List.append_assoc]
  refine List.Perm.append_left _ ?_
  exact List.perm_append_comm_assoc _ _ _

theorem last_split (M : List Nat) (i : Nat) (h : M.length = i + 1) : M = M.take i ++ [M.getD i 0] := by
  rw [getD_at _ _ (by omega), ← List.take_succ_eq_append_getElem (by omega), List.take_of_length_le (by omega)]
/-- One element put between two parts. -/
theorem ins_up {key : Nat → Int} {M1 M2 : List Nat} {x : Nat} (h : Up key (M1 ++ M2)) (h1 : ∀ i, M1.length = i + 1 → key (M1.getD i 0) ≤ key x) (h2 : ∀ y ∈ M2, key x ≤ key y) : Up key (M1 ++ x :: M2) := by
  obtain ⟨u1, u2, u3⟩ := up_append.1 h
  refine up_append.2 ⟨u1, List.pairwise_cons.2 ⟨h2, u2⟩, fun z hz y hy => ?_⟩
  rcases List.mem_cons.1 hy with rfl | hy
  · obtain ⟨i, hi⟩ : ∃ i, M1.length = i + 1 := ⟨M1.length - 1, by have := List.length_pos_of_mem hz; omega⟩
    have h4 := h1 i hi
    obtain ⟨k, hk, rfl⟩ := List.getElem_of_mem hz
    by_cases hki : k = i
    · subst hki; rw [getD_at _ _ (by omega)] at h4; exact h4
    · have := List.pairwise_iff_getElem.1 u1 k i (by omega) (by omega) (by omega)
      rw [getD_at _ _ (by omega)] at h4
      omega
  · exact u3 z hz y hy
theorem up_nil (key : Nat → Int) : Up key [] := List.Pairwise.nil
theorem up_one (key : Nat → Int) (x : Nat) : Up key [x] := List.pairwise_singleton _ _
theorem up_take {key : Nat → Int} {l : List Nat} (h : Up key l) (k : Nat) : Up key (l.take k) := h.sublist (List.take_sublist _ _)
theorem up_drop {key : Nat → Int} {l : List Nat} (h : Up key l) (k : Nat) : Up key (l.drop k) := h.sublist (List.drop_sublist _ _)
/-- An element of a part, told by its place in the whole. -/
theorem mid_at (P L S : List Nat) (i a : Nat) (ha : P.length = a) (hi : i < L.length) : (P ++ L ++ S).getD (a + i) 0 = L.getD i 0 := by
  subst ha
  rw [getD_at _ _ (by simp; omega), getD_at _ _ hi, List.getElem_append_left (by simp; omega), List.getElem_append_right (by omega)]
  simp
theorem up_at {key : Nat → Int} {R : List Nat} (h : Up key R) (i j : Nat) (hij : i ≤ j) (hj : j < R.length) : key (R.getD i 0) ≤ key (R.getD j 0) := by
  by_cases e : i = j
  · subst e; exact Int.le_refl _
  · rw [getD_at _ _ (by omega), getD_at _ _ hj]; exact List.pairwise_iff_getElem.1 h i j (by omega) hj (by omega)
/-- One element put to its place in a row that does not fall. -/
theorem ins_at {key : Nat → Int} {R : List Nat} {x p : Nat} (hR : Up key R) (hp : p ≤ R.length) (h1 : p = 0 ∨ key (R.getD (p - 1) 0) ≤ key x) (h2 : p = R.length ∨ key x ≤ key (R.getD p 0)) :
    (R.take p ++ x :: R.drop p).Perm (x :: R) ∧ Up key (R.take p ++ x :: R.drop p) := by
  refine ⟨?_, ins_up (by rw [List.take_append_drop]; exact hR) ?_ ?_⟩
  · have := List.perm_middle (a := x) (l₁ := R.take p) (l₂ := R.drop p)
    rwa [List.take_append_drop] at this
  · intro i hi
    rw [List.length_take] at hi
    have hip : p = i + 1 := by omega
    subst hip
    rcases h1 with h | h
    · omega
    · have e : (R.take (i + 1)).getD i 0 = R.getD i 0 := by
        rw [getD_at _ _ (by rw [List.length_take]; omega), getD_at _ _ (by omega), List.getElem_take]
      rw [e]; simpa using h
  · intro y hy
    obtain ⟨k, hk, rfl⟩ := List.getElem_of_mem hy
    rw [List.length_drop] at hk
    rw [List.getElem_drop]
    rcases h2 with h | h
    · omega
    · have := up_at hR p (p + k) (by omega) (by omega)
      rw [getD_at _ _ (by omega : p + k < R.length)] at this
      omega
attribute [irreducible] Up

end Go.Proofs.Ytlmdlholmlbcbaa

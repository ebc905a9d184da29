import Derived.Test.YteeeikninigeoaaDoorPtP
import Derived.Test.YteeeikninigeoaaDoorRnkP
import Derived.Test.YteeeikninigeoaaDoorMPo
/- Plain facts on points in a rectangle, counted along an order by x. -/
namespace Go.Proofs.YteeeikninigeoaaDoor
set_option linter.unusedVariables false
open Go.RowKit

/-- A point stands in a rectangle. -/
def inR (X0 Y0 X1 Y1 : Int) (p : Pt) : Bool := decide (X0 ≤ p.x ∧ p.x ≤ X1 ∧ Y0 ≤ p.y ∧ p.y ≤ Y1)
/-- How many points stand in a rectangle. -/
def cntR (L : List Pt) (X0 Y0 X1 Y1 : Int) : Nat := L.countP (inR X0 Y0 X1 Y1)

/-- Of a list with rising x what stands from a to b is what has an x between. -/
theorem range_cnt (S : List Pt) (X0 X1 : Int) (a b : Nat) (hs : ∀ i j (h : i < j) (hj : j < S.length), (S[i]'(by omega)).x ≤ S[j].x) (ha : a ≤ S.length) (hb : b ≤ S.length)
    (a1 : ∀ i (h : i < S.length), i < a → S[i].x < X0) (a2 : ∀ h : a < S.length, X0 ≤ S[a].x)
    (b1 : ∀ i (h : i < S.length), i < b → S[i].x ≤ X1) (b2 : ∀ h : b < S.length, X1 < S[b].x) (q : Pt → Bool) :
    ((S.take (max a b)).drop a).countP q = S.countP (fun p => decide (X0 ≤ p.x ∧ p.x ≤ X1) && q p) := by
  have e1 : S = S.take a ++ ((S.take (max a b)).drop a ++ S.drop (max a b)) := by
    have h1 := List.take_append_drop (max a b) S
    have h2 := List.take_append_drop a (S.take (max a b))
    rw [List.take_take, Nat.min_eq_left (Nat.le_max_left a b)] at h2
    rw [← List.append_assoc, h2, h1]
  have f1 : (S.take a).countP (fun p => decide (X0 ≤ p.x ∧ p.x ≤ X1) && q p) = 0 := by
    rw [List.countP_eq_zero]
    intro p hp
    obtain ⟨i, hi, rfl⟩ := List.getElem_of_mem hp
    rw [List.length_take] at hi
    have := a1 i (by omega) (by omega)
    rw [List.getElem_take]
    have h3 : ¬ X0 ≤ S[i].x := by omega
    simp [h3]
  have f3 : (S.drop (max a b)).countP (fun p => decide (X0 ≤ p.x ∧ p.x ≤ X1) && q p) = 0 := by
    rw [List.countP_eq_zero]
    intro p hp
    obtain ⟨i, hi, rfl⟩ := List.getElem_of_mem hp
    rw [List.length_drop] at hi
    rw [List.getElem_drop]
    have h4 : b < S.length := by omega
    have h5 := b2 h4
    have h6 : S[b].x ≤ (S[max a b + i]'(by omega)).x := by
      rcases Nat.eq_or_lt_of_le (show b ≤ max a b + i by omega) with e | e
      · simp only [← e]; exact Int.le_refl _
      · exact hs b (max a b + i) e (by omega)
    have h3 : ¬ (S[max a b + i]'(by omega)).x ≤ X1 := by omega
    simp [h3]
  have f2 : ((S.take (max a b)).drop a).countP (fun p => decide (X0 ≤ p.x ∧ p.x ≤ X1) && q p) = ((S.take (max a b)).drop a).countP q := by
    apply List.countP_congr
    intro p hp
    obtain ⟨i, hi, rfl⟩ := List.getElem_of_mem hp
    rw [List.length_drop, List.length_take] at hi
    rw [List.getElem_drop, List.getElem_take]
    have h4 : a + i < b := by omega
    have h5 := b1 (a + i) (by omega) h4
    have h6 := a2 (by omega)
    have h7 : S[a].x ≤ S[a + i].x := by
      rcases Nat.eq_or_lt_of_le (show a ≤ a + i by omega) with e | e
      · simp only [← e]; exact Int.le_refl _
      · exact hs a (a + i) e (by omega)
    have h8 : X0 ≤ S[a + i].x := by omega
    simp [h5, h8]
  conv => rhs; rw [e1]
  rw [List.countP_append, List.countP_append, f1, f2, f3]
  omega

/-- What is at most Y1, less what is below Y0. -/
theorem two_cnt (M : List Pt) (Y0 Y1 : Int) : max 0 (((M.countP fun p => decide (p.y ≤ Y1) : Nat) : Int) - ((M.countP fun p => decide (p.y < Y0) : Nat) : Int)) = ((M.countP fun p => decide (Y0 ≤ p.y ∧ p.y ≤ Y1) : Nat) : Int) := by
  by_cases h : Y0 ≤ Y1
  · have : M.countP (fun p => decide (p.y ≤ Y1)) = M.countP (fun p => decide (p.y < Y0)) + M.countP (fun p => decide (Y0 ≤ p.y ∧ p.y ≤ Y1)) := by
      induction M with
      | nil => rfl
      | cons p M ih =>
        simp only [List.countP_cons, decide_eq_true_eq]
        split <;> split <;> split <;> omega
    omega
  · have : M.countP (fun p => decide (p.y ≤ Y1)) ≤ M.countP (fun p => decide (p.y < Y0)) ∧ M.countP (fun p => decide (Y0 ≤ p.y ∧ p.y ≤ Y1)) = 0 := by
      induction M with
      | nil => exact ⟨Nat.le_refl _, rfl⟩
      | cons p M ih =>
        simp only [List.countP_cons, decide_eq_true_eq]
        split <;> split <;> split <;> omega
    omega

/-- Ranks below a number's place count numbers below it. -/
theorem rank_cnt (q : Int → Bool) (V : List Int) (hV : Up V) (k : Nat) (k1 : ∀ i, i < k → i < V.length → q (V.getD i 0) = true) (k2 : ∀ i, k ≤ i → i < V.length → q (V.getD i 0) = false) (ys : List Int) (R : List Nat) (hl : R.length = ys.length)
    (hr : ∀ i, i < ys.length → R.getD i 0 < V.length ∧ V.getD (R.getD i 0) 0 = ys.getD i 0) :
    R.countP (fun r => decide (r < k)) = ys.countP q := by
  induction ys generalizing R with
  | nil =>
    have : R = [] := List.length_eq_zero_iff.1 (by simpa using hl)
    subst this; rfl
  | cons y ys ih =>
    cases R with
    | nil => simp at hl
    | cons r R =>
      have h0 := hr 0 (by simp)
      simp only [List.getD_cons_zero] at h0
      have h1 := ih R (by simpa using hl) (fun i hi => by
        have := hr (i + 1) (by simp; omega)
        simpa using this)
      rw [List.countP_cons, List.countP_cons, h1]
      congr 1
      rw [← h0.2]
      by_cases h : r < k
      · rw [k1 r h h0.1]; simp [h]
      · rw [k2 r (by omega) h0.1]; simp [h]

theorem sg_map {S : List Pt} (f : Pt → Int) (a b : Nat) (q : Int → Bool) : (((S.map f).take b).drop a).countP q = ((S.take b).drop a).countP (fun p => q (f p)) := by
  rw [← List.map_take, ← List.map_drop, List.countP_map]; rfl

end Go.Proofs.YteeeikninigeoaaDoor


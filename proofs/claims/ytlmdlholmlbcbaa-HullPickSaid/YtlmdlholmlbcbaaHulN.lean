/- Hulls: the first corner stands ahead of all. -/
import Derived.Test.YtlmdlholmlbcbaaPickH
namespace Go.Proofs.Ytlmdlholmlbcbaa
set_option linter.unusedVariables false
open Go.RowKit

theorem chain_lx {g : Nat → Pt} (L : List Nat) (h : ∀ i, i + 1 < L.length → lx (g (L.getD i 0)) (g (L.getD (i + 1) 0))) : ∀ j i, i < j → j < L.length → lx (g (L.getD i 0)) (g (L.getD j 0)) := by
  intro j
  induction j with
  | zero => intro i hi; omega
  | succ j ih =>
    intro i hi hj
    by_cases e : i = j
    · subst e; exact h i hj
    · exact lx_trans (ih i (by omega) (by omega)) (h j hj)
theorem fence_low {g : Nat → Pt} (O : List Nat) (h2 : 2 ≤ O.length) (hl : O.Pairwise (fun a b => lx (g a) (g b))) :
    ∀ i, 0 < i → i < ((sideS g [] O).reverse.dropLast ++ (sideS g [] O.reverse).reverse.dropLast).length → lx (g (((sideS g [] O).reverse.dropLast ++ (sideS g [] O.reverse).reverse.dropLast).getD 0 0)) (g (((sideS g [] O).reverse.dropLast ++ (sideS g [] O.reverse).reverse.dropLast).getD i 0)) := by
  have hne : O ≠ [] := fun e => by rw [e] at h2; simp at h2
  have hL := side_is O hne hl
  have hU := side_is_back O hne hl
  generalize (sideS g [] O).reverse = L at *
  generalize (sideS g [] O.reverse).reverse = U at *
  have hLU : L.getD (L.length - 1) 0 = U.getD 0 0 := by
    rw [hL.last, hU.first, getD_rev _ _ (by omega), Nat.sub_zero]
  have hUL : U.getD (U.length - 1) 0 = L.getD 0 0 := by
    rw [hL.first, hU.last, List.length_reverse, getD_rev _ _ (by omega), show O.length - 1 - (O.length - 1) = 0 by omega]
  have hlx : ∀ i j, i < j → j < O.length → lx (g (O.getD i 0)) (g (O.getD j 0)) := fun i j hij hj => by
    rw [getD_at _ _ (by omega), getD_at _ _ hj]; exact List.pairwise_iff_getElem.1 hl i j (by omega) hj hij
  have hends := hlx 0 (O.length - 1) (by omega) (by omega)
  have l2 : 2 ≤ L.length := by
    have := hL.len
    by_cases h : L.length = 1
    · have e := hL.last
      rw [h, show 1 - 1 = 0 from rfl, hL.first] at e
      rw [← e] at hends; unfold lx at hends; omega
    · omega
  have u2 : 2 ≤ U.length := by
    have := hU.len
    by_cases h : U.length = 1
    · have e := hU.last
      rw [h, show 1 - 1 = 0 from rfl, hU.first, List.length_reverse, getD_rev _ _ (by omega), getD_rev _ _ (by omega), Nat.sub_zero, show O.length - 1 - (O.length - 1) = 0 by omega] at e
      rw [e] at hends; unfold lx at hends; omega
    · omega
  have hn : (L.dropLast ++ U.dropLast).length = (L.length - 1) + (U.length - 1) := by simp
  have c1 := fun i hi => fence_at L U (by omega) hLU i hi u2
  have c2 := fence_at2 L U
  intro i h0 hi
  rw [c1 0 (by omega)]
  by_cases h : i < L.length
  · rw [c1 i (by omega)]
    exact chain_lx L hL.up i 0 h0 h
  · obtain ⟨j, rfl⟩ : ∃ j, i = L.length - 1 + j := ⟨i - (L.length - 1), by omega⟩
    rw [c2 j (by omega), ← hUL]
    have := chain_lx (g := fun i => negP (g i)) U hU.up (U.length - 1) j (by omega) (by omega)
    unfold lx negP at *
    simp only at this
    omega
theorem hullL_of {L : List Pt} {K C : List Nat} (h : IsCorners L K C) : Pick.HullL L (C.map (ptAt L)) := by
  refine ⟨hull_of h, fun i h0 hi => ?_⟩
  rw [List.length_map] at hi
  by_cases h1 : K.length = 1
  · obtain rfl := h.one h1
    omega
  · have h2 : 2 ≤ K.length := by have := h.pos; omega
    have hF := fence_low (g := ptAt L) K h2 h.up
    rw [← h.two h2] at hF
    rw [getD_pts _ _ _ (by omega), getD_pts _ _ _ hi]
    exact hF i h0 hi

end Go.Proofs.Ytlmdlholmlbcbaa

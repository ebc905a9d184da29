/- TopLayers: the walk. -/
import Derived.Test.YtmfmknpkeniifaaSkyW1
import Derived.Test.YtmfmknpkeniifaaRise
import Derived.Test.YtmfmknpkeniifaaTopC
import Derived.Test.YtmfmknpkeniifaaNum
namespace Go.Proofs.Ytmfmknpkeniifaa
set_option linter.unusedVariables false
open Go.RowKit

/-- The points of a list: at its places, as high as its numbers; those that are the same a little lower, one behind the other. -/
def lPts (l : List Int) (k : Nat) : List Pt := (List.range k).map fun (i : Nat) => (⟨(i : Int), 1000 * l.getD i 0 - (i : Int), 0⟩ : Pt)
theorem lPts_succ (l : List Int) (k : Nat) : lPts l (k + 1) = lPts l k ++ [⟨(k : Int), 1000 * l.getD k 0 - k, 0⟩] := by
  unfold lPts
  rw [List.range_succ, List.map_append]; rfl
theorem lPts_length (l : List Int) (k : Nat) : (lPts l k).length = k := by simp [lPts]
theorem lPts_at (l : List Int) (k i : Nat) (h : i < k) : (lPts l k).getD i pt0 = ⟨(i : Int), 1000 * l.getD i 0 - i, 0⟩ := by
  rw [getD_at _ _ (by rw [lPts_length]; exact h)]
  simp [lPts]
theorem lPts_above {l : List Int} {n a b : Nat} (ha : a < n) (hb : b < n) (hn : n ≤ 900) : Above ((lPts l n).getD a pt0) ((lPts l n).getD b pt0) ↔ b < a ∧ l.getD b 0 < l.getD a 0 := by
  rw [lPts_at l n a ha, lPts_at l n b hb]
  unfold Above
  dsimp only
  generalize hu : l.getD a 0 = u
  generalize hv : l.getD b 0 = v
  constructor
  · rintro ⟨h1, h2, h3⟩
    have h4 : b < a := by
      rcases Nat.lt_trichotomy a b with e | e | e
      · omega
      · subst e
        rw [hu] at hv
        exfalso; omega
      · exact e
    exact ⟨h4, by omega⟩
  · rintro ⟨h1, h2⟩
    refine ⟨by omega, ?_, .inl (by omega)⟩
    have h3 : (a : Int) - b ≤ 900 := by omega
    have h4 : v + 1 ≤ u := by omega
    omega
theorem lPts_near {l : List Int} {n : Nat} (hn : n ≤ 900) (hb : ∀ i, i < n → 0 ≤ l.getD i 0 ∧ l.getD i 0 ≤ 1000) : ∀ p ∈ lPts l n, p.Near := by
  intro p hp
  unfold lPts at hp
  obtain ⟨i, hi, rfl⟩ := List.mem_map.1 hp
  have := List.mem_range.1 hi
  have := hb i this
  unfold Pt.Near
  dsimp only
  omega
attribute [irreducible] lPts
/-- From each place a rise goes on, one longer than its layer. -/
theorem lay_rise {n : Nat} {l : List Int} {R : List Nat} (h : Lays n (lPts l n) R) (hl : l.length = n) (hn : n ≤ 900) : ∀ m b, b < n → R.getD b 0 = m → ∃ r, r.length = m + 1 ∧ Rises l r ∧ r.head? = some b := by
  intro m
  induction m with
  | zero =>
    intro b hb _
    exact ⟨[b], rfl, ⟨by intro x hx; rw [List.mem_singleton.1 hx]; omega, by simp, by simp⟩, rfl⟩
  | succ m ih =>
    intro b hb hm
    obtain ⟨a, ha, h1, h2⟩ := h.way b hb (by omega)
    obtain ⟨r, hr1, hr2, hr3⟩ := ih a ha (by omega)
    rw [lPts_above ha hb hn] at h2
    cases r with
    | nil => simp at hr1
    | cons x r =>
      simp only [List.head?_cons, Option.some.injEq] at hr3
      subst hr3
      have hge := List.pairwise_cons.1 hr2.inc
      have hup := List.pairwise_cons.1 hr2.up
      have e0 : ∀ i, at0 l i = l.getD i 0 := fun i => rfl
      refine ⟨b :: x :: r, by simp [← hr1], ⟨?_, ?_, ?_⟩, rfl⟩
      · intro y hy
        rcases List.mem_cons.1 hy with rfl | hy
        · omega
        · exact hr2.lt y hy
      · rw [List.pairwise_cons]
        refine ⟨fun y hy => ?_, hr2.inc⟩
        rcases List.mem_cons.1 hy with rfl | hy
        · exact h2.1
        · have := hge.1 y hy; omega
      · rw [List.pairwise_cons]
        refine ⟨fun y hy => ?_, hr2.up⟩
        rw [e0, e0]
        rcases List.mem_cons.1 hy with rfl | hy
        · exact h2.2
        · have := hup.1 y hy
          rw [e0, e0] at this
          omega
theorem fall_len (r : List Nat) (h : r.Pairwise fun x y => y < x) : ∀ x, r.head? = some x → r.length ≤ x + 1 := by
  induction r with
  | nil => intro x hx; simp at hx
  | cons y r ih =>
    intro x hx
    simp only [List.head?_cons, Option.some.injEq] at hx
    subst hx
    obtain ⟨h1, h2⟩ := List.pairwise_cons.1 h
    cases r with
    | nil => simp
    | cons z r =>
      have := ih h2 z rfl
      have := h1 z (by simp)
      simp only [List.length_cons] at *
      omega
/-- The longest rise is one longer than the greatest layer. -/
theorem layers_law {n : Nat} {l : List Int} {R : List Nat} (h : Lays n (lPts l n) R) (hl : l.length = n) (hn : n ≤ 900) (h0 : 0 < n) (M : Nat) (h1 : ∀ i, i < n → R.getD i 0 ≤ M) (h2 : ∃ i, i < n ∧ R.getD i 0 = M) : (riseOf l).length = M + 1 := by
  have hR := riseOf_rises l
  have hrl := riseOf_length l
  apply Nat.le_antisymm
  · have hp : ((riseOf l).map fun x => R.getD x 0).Pairwise fun x y => y < x := by
      rw [List.pairwise_map, List.pairwise_iff_getElem]
      intro i j hi hj hij
      have a1 := List.pairwise_iff_getElem.1 hR.inc i j hi hj hij
      have a2 := List.pairwise_iff_getElem.1 hR.up i j hi hj hij
      have a3 := hR.lt _ (List.getElem_mem hi)
      have a4 := hR.lt _ (List.getElem_mem hj)
      exact h.up _ _ (by omega) (by omega) ((lPts_above (by omega) (by omega) hn).2 ⟨a1, a2⟩)
    cases hr : riseOf l with
    | nil => simp
    | cons x r =>
      rw [hr] at hp
      have := fall_len _ hp (R.getD x 0) rfl
      have hx := hR.lt x (by rw [hr]; simp)
      have := h1 x (by omega)
      simp only [List.length_map] at *
      omega
  · obtain ⟨b, hb, hbM⟩ := h2
    obtain ⟨r, hr1, hr2, _⟩ := lay_rise h hl hn M b hb hbM
    have := rise_len hr2
    omega

end Go.Proofs.Ytmfmknpkeniifaa

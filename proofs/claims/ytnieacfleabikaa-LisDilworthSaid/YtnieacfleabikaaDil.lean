/- The walk of LisDilworth. -/
import Derived.Test.YtnieacfleabikaaRsng
import Derived.Test.YtnieacfleabikaaNum
import Derived.Test.YtnieacfleabikaaBool
namespace Go.Proofs.Ytnieacfleabikaa
set_option linter.unusedVariables false
open Go.RowKit

theorem set_getD {α : Type _} (l : List α) (d : α) (i j : Nat) (x : α) (h : i < l.length) : (l.set i x).getD j d = if i = j then x else l.getD j d := by
  simp only [List.getD_eq_getElem?_getD, List.getElem?_set]
  by_cases e : i = j
  · subst e; simp [h]
  · simp [e]
/-- Of each place in which pile it lies. -/
structure WhI (ps : List (List Nat)) (n i k : Nat) (W : List Nat) : Prop where
  len : W.length = n
  ok : ∀ x, W.getD x 0 ≠ 0 → W.getD x 0 ≤ ps.length ∧ x ∈ ps.getD (W.getD x 0 - 1) []
  met : ∀ q, q < i → ∀ x ∈ ps.getD q [], W.getD x 0 ≠ 0
  now : ∀ j, j < k → W.getD ((ps.getD i []).getD j 0) 0 ≠ 0
theorem WhI.start (ps : List (List Nat)) (n : Nat) : WhI ps n 0 0 (List.replicate n 0) := by
  refine ⟨by simp, fun x h => ?_, fun q h => by omega, fun j h => by omega⟩
  exact absurd (by simp only [List.getD_eq_getElem?_getD, List.getElem?_replicate]; split <;> rfl) h
theorem WhI.step {ps : List (List Nat)} {n i k : Nat} {W : List Nat} (h : WhI ps n i k W) (hi : i < ps.length) (hk : k < (ps.getD i []).length) (hx : (ps.getD i []).getD k 0 < n) : WhI ps n i (k + 1) (W.set ((ps.getD i []).getD k 0) (i + 1)) := by
  have hxl : (ps.getD i []).getD k 0 < W.length := by rw [h.len]; exact hx
  have key : ∀ y, W.getD y 0 ≠ 0 → (W.set ((ps.getD i []).getD k 0) (i + 1)).getD y 0 ≠ 0 := fun y hy => by
    rw [set_getD _ _ _ _ _ hxl]; split
    · omega
    · exact hy
  refine ⟨by rw [List.length_set, h.len], fun x hn => ?_, fun q hq x hm => key x (h.met q hq x hm), fun j hj => ?_⟩
  · rw [set_getD _ _ _ _ _ hxl] at hn ⊢
    by_cases e : (ps.getD i []).getD k 0 = x
    · rw [if_pos e]
      refine ⟨hi, ?_⟩
      rw [Nat.add_sub_cancel, ← e, getD_at (ps.getD i []) 0 hk]
      exact List.getElem_mem _
    · rw [if_neg e] at hn ⊢; exact h.ok x hn
  · by_cases e : j = k
    · rw [e, set_getD _ _ _ _ _ hxl, if_pos rfl]; omega
    · exact key _ (h.now j (by omega))
theorem WhI.next {ps : List (List Nat)} {n i : Nat} {W : List Nat} (h : WhI ps n i (ps.getD i []).length W) : WhI ps n (i + 1) 0 W := by
  refine ⟨h.len, h.ok, fun q hq x hm => ?_, fun j hj => by omega⟩
  by_cases e : q = i
  · subst e
    obtain ⟨j, hj, rfl⟩ := List.mem_iff_getElem.1 hm
    have := h.now j hj
    rwa [getD_at _ _ hj] at this
  · exact h.met q (by omega) x hm
/-- What the second loop knows. -/
structure UsI (W R : List Nat) (m i : Nat) (U : List Bool) : Prop where
  len : U.length = m + 1
  ok : ∀ q, U.getD q false = true → ∃ j, j < i ∧ W.getD (R.getD j 0) 0 = q
theorem UsI.start (W R : List Nat) (m : Nat) : UsI W R m 0 (List.replicate (m + 1) false) := by
  refine ⟨by simp, fun q h => ?_⟩
  simp only [List.getD_eq_getElem?_getD, List.getElem?_replicate] at h
  split at h <;> cases h
theorem UsI.step {W R : List Nat} {m i : Nat} {U : List Bool} (h : UsI W R m i U) (hq : W.getD (R.getD i 0) 0 ≤ m) : UsI W R m (i + 1) (U.set (W.getD (R.getD i 0) 0) true) := by
  refine ⟨by rw [List.length_set, h.len], fun q hu => ?_⟩
  rw [set_getD _ _ _ _ _ (by rw [h.len]; omega)] at hu
  by_cases e : W.getD (R.getD i 0) 0 = q
  · exact ⟨i, by omega, e⟩
  · rw [if_neg e] at hu
    obtain ⟨j, hj, he⟩ := h.ok q hu
    exact ⟨j, by omega, he⟩
/-- No pile is met twice. -/
theorem dil_new {l : List Int} {n i : Nat} {W R : List Nat} {U : List Bool} (hI : PInv l n (pilesK l n)) (hW : WhI (pilesK l n) n (pilesK l n).length 0 W) (hU : UsI W R (pilesK l n).length i U) (hR : Rises l R) (hi : i < R.length) (hl : l.length = n) :
    W.getD (R.getD i 0) 0 ≠ 0 ∧ W.getD (R.getD i 0) 0 ≤ (pilesK l n).length ∧ U.getD (W.getD (R.getD i 0) 0) false = false := by
  have hne : ∀ x, x < n → W.getD x 0 ≠ 0 := fun x hx => by
    obtain ⟨p, hp, hxp⟩ := hI.all x hx
    obtain ⟨q, hq, rfl⟩ := List.mem_iff_getElem.1 hp
    exact hW.met q hq x (by rw [getD_at _ _ hq]; exact hxp)
  have hlt : ∀ j, j < R.length → R.getD j 0 < n := fun j hj => by rw [getD_at _ _ hj, ← hl]; exact hR.lt _ (List.getElem_mem hj)
  have h1 := hne _ (hlt i hi)
  have h2 := hW.ok _ h1
  refine ⟨h1, h2.1, ?_⟩
  cases hu : U.getD (W.getD (R.getD i 0) 0) false with
  | false => rfl
  | true =>
    obtain ⟨j, hj, he⟩ := hU.ok _ hu
    have h3 := hne _ (hlt j (by omega))
    have h4 := hW.ok _ h3
    rw [he] at h4
    have hq : W.getD (R.getD i 0) 0 - 1 < (pilesK l n).length := by omega
    have hm : (pilesK l n).getD (W.getD (R.getD i 0) 0 - 1) [] ∈ pilesK l n := by rw [getD_at _ _ hq]; exact List.getElem_mem _
    generalize (pilesK l n).getD (W.getD (R.getD i 0) 0 - 1) [] = Z at *
    have := rise_once hR (hI.fall _ hm) (hI.inc _ hm) (List.getElem_mem (show j < R.length by omega)) (List.getElem_mem hi) (by have := h4.2; rwa [getD_at R 0 (by omega)] at this) (by have := h2.2; rwa [getD_at R 0 hi] at this)
    have h5 := List.pairwise_iff_getElem.1 hR.inc j i (by omega) hi hj
    omega

end Go.Proofs.Ytnieacfleabikaa

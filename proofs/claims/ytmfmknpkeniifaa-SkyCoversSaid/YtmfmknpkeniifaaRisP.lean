/- Plain facts on piles: a rise that is read off them, from the last pile back. -/
import Derived.Test.YtmfmknpkeniifaaLisP
namespace Go.Proofs.Ytmfmknpkeniifaa
set_option linter.unusedVariables false

/-- The last place of a pile that is ahead of x. -/
def cutAt (p : List Nat) (x : Nat) : Nat := p.findIdx fun y => decide (x < y)
def outR (ps : List (List Nat)) : Nat → List Nat
  | 0 => []
  | k + 1 => outR ps k ++ [if k = 0 then (ps.getD (ps.length - 1) []).getD 0 0 else (ps.getD (ps.length - 1 - k) []).getD (cutAt (ps.getD (ps.length - 1 - k) []) (tip (outR ps k)) - 1) 0]
theorem outR_length (ps : List (List Nat)) (k : Nat) : (outR ps k).length = k := by
  induction k with
  | zero => rfl
  | succ k ih => simp [outR, ih]
/-- Where it is cut. -/
theorem back_cut {l : List Int} {p : List Nat} {x : Nat} (h : Back l p x) (hp : p.Pairwise (· < ·)) :
    0 < cutAt p x ∧ cutAt p x ≤ p.length ∧ (∀ i, i < cutAt p x → ¬ x < p.getD i 0) ∧ (cutAt p x < p.length → x < p.getD (cutAt p x) 0) ∧ p.getD (cutAt p x - 1) 0 < x ∧ at0 l (p.getD (cutAt p x - 1) 0) < at0 l x ∧ p.getD (cutAt p x - 1) 0 ∈ p := by
  obtain ⟨j, hj, h1, h2, h3⟩ := h
  have hpp := List.pairwise_iff_getElem.1 hp
  have e : cutAt p x = j + 1 := by
    refine findIdx_uniq _ _ _ (by omega) (fun i hi hij => ?_) (fun h => ?_)
    · have : p[i] ≤ p[j] := by
        by_cases e : i = j
        · subst e; exact Nat.le_refl _
        · exact Nat.le_of_lt (hpp i j hi hj (by omega))
      simp; omega
    · simpa using h3 (j + 1) h (by omega)
  rw [e, Nat.add_sub_cancel, getD_at _ _ hj]
  refine ⟨by omega, by omega, fun i hi => ?_, fun h => ?_, h1, h2, List.getElem_mem hj⟩
  · rw [getD_at _ _ (by omega)]
    have : p[i] ≤ p[j] := by
      by_cases e : i = j
      · subst e; exact Nat.le_refl _
      · exact Nat.le_of_lt (hpp i j (by omega) hj (by omega))
    omega
  · rw [getD_at _ _ h]; exact h3 (j + 1) h (by omega)
structure OutI (l : List Int) (n : Nat) (ps : List (List Nat)) (k : Nat) : Prop where
  mem : 0 < k → tip (outR ps k) ∈ ps.getD (ps.length - k) []
  lt : ∀ x ∈ outR ps k, x < n
  low : ∀ x ∈ outR ps k, tip (outR ps k) ≤ x ∧ at0 l (tip (outR ps k)) ≤ at0 l x
  down : (outR ps k).Pairwise fun x y => y < x ∧ at0 l y < at0 l x
theorem OutI.all {l : List Int} {n : Nat} {ps : List (List Nat)} (h : PInv l n ps) (k : Nat) (hk : k ≤ ps.length) : OutI l n ps k := by
  induction k with
  | zero => exact ⟨fun h => by omega, by simp [outR], by simp [outR], by simp [outR]⟩
  | succ k ih =>
    have ih := ih (by omega)
    by_cases h0 : k = 0
    · subst h0
      have hp := List.getElem_mem (show ps.length - 1 < ps.length by omega)
      have hne := h.ne _ hp
      have hpos := List.length_pos_iff.2 hne
      have e : outR ps (0 + 1) = [ps[ps.length - 1][0]] := by
        simp only [outR, if_pos, List.nil_append]
        rw [getD_at _ _ (show ps.length - 1 < ps.length by omega), getD_at _ _ hpos]
      have et : tip (outR ps (0 + 1)) = ps[ps.length - 1][0] := by rw [e]; rfl
      refine ⟨fun _ => ?_, ?_, ?_, ?_⟩
      · rw [et, getD_at _ _ (show ps.length - (0 + 1) < ps.length by omega)]
        exact List.getElem_mem hpos
      · rw [e]
        intro x hx
        rw [List.mem_singleton.1 hx]
        exact h.lt _ hp _ (List.getElem_mem hpos)
      · rw [et, e]
        intro x hx
        rw [List.mem_singleton.1 hx]
        exact ⟨Nat.le_refl _, Int.le_refl _⟩
      · rw [e]; simp
    · have hq : ps.length - 1 - k < ps.length := by omega
      have hm := ih.mem (by omega)
      have hq1 : ps.length - k = ps.length - 1 - k + 1 := by omega
      rw [hq1, getD_at _ _ (by omega)] at hm
      have hb := h.back (ps.length - 1 - k) (by omega) _ hm
      have hpm := List.getElem_mem hq
      obtain ⟨_, _, _, _, h1, h2, h3⟩ := back_cut hb (h.inc _ hpm)
      have e : outR ps (k + 1) = outR ps k ++ [ps[ps.length - 1 - k].getD (cutAt ps[ps.length - 1 - k] (tip (outR ps k)) - 1) 0] := by
        rw [outR, if_neg h0, getD_at _ _ hq]
      generalize ps[ps.length - 1 - k].getD (cutAt ps[ps.length - 1 - k] (tip (outR ps k)) - 1) 0 = y at *
      have et : tip (outR ps (k + 1)) = y := by rw [e, tip_snoc]
      refine ⟨fun _ => ?_, ?_, ?_, ?_⟩
      · rw [et, show ps.length - (k + 1) = ps.length - 1 - k by omega, getD_at _ _ hq]; exact h3
      · rw [e]
        intro x hx
        rcases List.mem_append.1 hx with hx | hx
        · exact ih.lt x hx
        · rw [List.mem_singleton.1 hx]; exact h.lt _ hpm _ h3
      · rw [et, e]
        intro x hx
        rcases List.mem_append.1 hx with hx | hx
        · have := ih.low x hx; omega
        · rw [List.mem_singleton.1 hx]; exact ⟨Nat.le_refl _, Int.le_refl _⟩
      · rw [e]
        refine List.pairwise_append.2 ⟨ih.down, by simp, fun a ha b hb => ?_⟩
        rw [List.mem_singleton.1 hb]
        have := ih.low a ha
        omega
/-- What Rise tells. -/
def riseOf (l : List Int) : List Nat := (outR (pilesK l l.length) (pilesK l l.length).length).reverse
theorem riseOf_length (l : List Int) : (riseOf l).length = (pilesK l l.length).length := by rw [riseOf, List.length_reverse, outR_length]
theorem riseOf_rises (l : List Int) : Rises l (riseOf l) := by
  have h := OutI.all (piles_inv l l.length) (pilesK l l.length).length (Nat.le_refl _)
  refine ⟨fun x hx => h.lt x (List.mem_reverse.1 hx), ?_, ?_⟩
  · exact List.pairwise_reverse.2 (h.down.imp fun h => h.1)
  · exact List.pairwise_reverse.2 (h.down.imp fun h => h.2)
theorem piles_pos (l : List Int) (h : 0 < l.length) : 0 < (pilesK l l.length).length := by
  obtain ⟨p, hp, _⟩ := (piles_inv l l.length).all 0 h
  exact List.length_pos_of_mem hp

end Go.Proofs.Ytmfmknpkeniifaa

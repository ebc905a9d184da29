import Derived.Test.YtedchegejalolaaGreatDoorMb0
import Derived.Test.YtedchegejalolaaGreatDoorMb29
import Derived.Test.YtedchegejalolaaGreatDoorMb17
/- Slices of slices of int. -/
namespace Go.Proofs.YtedchegejalolaaGreatDoor
set_option linter.unusedVariables false
open Go.RowKit

/-- The cells of a slice of slices of int. -/
def hdr (L : List (Option Addr × Nat × List Int)) : List Value := L.map fun x => .slice x.1 x.2.2.length x.2.1
def lists (L : List (Option Addr × Nat × List Int)) : List (List Int) := L.map fun x => x.2.2
theorem hdr_length (L : List (Option Addr × Nat × List Int)) : (hdr L).length = L.length := by simp [hdr]
/-- A slice of slices of int, n long, that reads as D. -/
def RowsI (w : World) (a : Option Addr) (n cap : Nat) (D : List (List Int)) : Prop := ∃ L, lists L = D ∧ SlC w a n cap 1 (hdr L) ∧ Facts w L
theorem RowsI.below {w w' : World} {a : Option Addr} {n cap : Nat} {D : List (List Int)} (h : RowsI w a n cap D) (hb : Below w.heap.size w w') : RowsI w' a n cap D := by
  obtain ⟨L, h1, h2, h3⟩ := h
  exact ⟨L, h1, h2.below hb, h3.below hb⟩
theorem RowsI.len {w : World} {a : Option Addr} {n cap : Nat} {D : List (List Int)} (h : RowsI w a n cap D) : D.length = n := by
  obtain ⟨L, rfl, h2, _⟩ := h
  have := h2.hlen
  rw [hdr_length] at this
  simp [lists]; omega
theorem RowsI.at {w : World} {a : Option Addr} {n cap : Nat} {D : List (List Int)} (h : RowsI w a n cap D) (i : Nat) (hi : i < D.length) :
    ∃ b off ra rc, a = some ⟨b, off, none⟩ ∧ w.cell? ⟨b, off + i, none⟩ = some (.slice ra D[i].length rc) ∧ SlI w ra rc D[i] := by
  obtain ⟨L, rfl, h2, h3⟩ := h
  have hiL : i < L.length := by simpa [lists] using hi
  obtain ⟨b, off, ha, hc⟩ := h2.cell i (by rw [hdr_length]; exact hiL)
  have e1 : (lists L)[i] = L[i].2.2 := by simp [lists]
  refine ⟨b, off, L[i].1, L[i].2.1, ha, ?_, ?_⟩
  · rw [hc, e1]; simp [hdr]
  · rw [e1]; exact h3 _ (List.getElem_mem hiL)

end Go.Proofs.YtedchegejalolaaGreatDoor

/- Package lis: the memory of piles, and its test. -/
namespace Go.Proofs.YtedchegejalolaaGreatDoor
set_option linter.unusedVariables false
open Go.RowKit

def pnts (p : List Nat) : List Int := p.map Int.ofNat
/-- A pile, where it lies. -/
abbrev Row := Option Addr × Nat × List Nat
variable {B n bl bo gl gc : Nat} {a : Option Addr} {cap : Nat} {w wr : World} {so : Option Addr} {sc : Nat} {L : List Row} {len : List Int}
theorem box_keep {w w' : World} {b : Nat} {cs : Array Value} {t : TypeId} {r : Option Nat} (h : Box w b cs t) (hg : w.grownBy w' r) (hr : r ≠ some b) : Box w' b cs t := (hg.block b h.lt hr.symm).trans h
theorem own_other {w : World} {B e size n m c g o : Nat} {a : Option Addr} {xs : List Value} {v : Value} (h : w.ownsRow B e size (.slice a m c) n xs) (hne : blk a ≠ some g) : (w.setCell ⟨g, o, none⟩ v).ownsRow B e size (.slice a m c) n xs :=
  own_keep h (grown_set w g o v) (fun k hk => by simp at hk; subst hk; exact hne)
end Go.Proofs.YtedchegejalolaaGreatDoor

/- Package lis: the walk of piles. -/
namespace Go.Proofs.YtedchegejalolaaGreatDoor
set_option linter.unusedVariables false
open Go.RowKit

end Go.Proofs.YtedchegejalolaaGreatDoor

/- Plain facts on piles: a rise that is read off them, from the last pile back. -/
namespace Go.Proofs.YtedchegejalolaaGreatDoor
set_option linter.unusedVariables false

/-- The last place of a pile that is ahead of x. -/
def cutAt (p : List Nat) (x : Nat) : Nat := p.findIdx fun y => decide (x < y)
def outR (ps : List (List Nat)) : Nat → List Nat
  | 0 => []
  | k + 1 => outR ps k ++ [if k = 0 then (ps.getD (ps.length - 1) []).getD 0 0 else (ps.getD (ps.length - 1 - k) []).getD (cutAt (ps.getD (ps.length - 1 - k) []) (tip (outR ps k)) - 1) 0]
/-- Where it is cut. -/
theorem back_cut {l : List Int} {p : List Nat} {x : Nat} (h : Back l p x) (hp : p.Pairwise (· < ·)) :
    0 < cutAt p x ∧ cutAt p x ≤ p.length ∧ (∀ i, i < cutAt p x → ¬ x < p.getD i 0) ∧ (cutAt p x < p.length → x < p.getD (cutAt p x) 0) ∧ p.getD (cutAt p x - 1) 0 < x ∧ at0 l (p.getD (cutAt p x - 1) 0) < at0 l x ∧ p.getD (cutAt p x - 1) 0 ∈ p := by
  obtain ⟨j, hj, h1, h2, h3⟩ := h
  have hpp := List.pairwise_iff_getElem.1 hp
  have e : cutAt p x = j + 1 := by
    refine findIdx_uniq _ _ _ (by omega) (fun i hi hij => ?_) (fun h => ?_)
    · have : p[i] ≤ p[j] := by
        by_cases e : i = j
        · subst e; exact Nat.le_refl _
        · exact Nat.le_of_lt (hpp i j hi hj (by omega))
      simp; omega
    · simpa using h3 (j + 1) h (by omega)
  rw [e, Nat.add_sub_cancel, getD_at _ _ hj]
  refine ⟨by omega, by omega, fun i hi => ?_, fun h => ?_, h1, h2, List.getElem_mem hj⟩
  · rw [getD_at _ _ (by omega)]
    have : p[i] ≤ p[j] := by
      by_cases e : i = j
      · subst e; exact Nat.le_refl _
      · exact Nat.le_of_lt (hpp i j (by omega) hj (by omega))
    omega
  · rw [getD_at _ _ h]; exact h3 (j + 1) h (by omega)
structure OutI (l : List Int) (n : Nat) (ps : List (List Nat)) (k : Nat) : Prop where
  mem : 0 < k → tip (outR ps k) ∈ ps.getD (ps.length - k) []
  lt : ∀ x ∈ outR ps k, x < n
  low : ∀ x ∈ outR ps k, tip (outR ps k) ≤ x ∧ at0 l (tip (outR ps k)) ≤ at0 l x
  down : (outR ps k).Pairwise fun x y => y < x ∧ at0 l y < at0 l x
theorem OutI.all {l : List Int} {n : Nat} {ps : List (List Nat)} (h : PInv l n ps) (k : Nat) (hk : k ≤ ps.length) : OutI l n ps k := by
  induction k with
  | zero => exact ⟨fun h => by omega, by simp [outR], by simp [outR], by simp [outR]⟩
  | succ k ih =>
    have ih := ih (by omega)
    by_cases h0 : k = 0
    · subst h0
      have hp := List.getElem_mem (show ps.length - 1 < ps.length by omega)
      have hne := h.ne _ hp
      have hpos := List.length_pos_iff.2 hne
      have e : outR ps (0 + 1) = [ps[ps.length - 1][0]] := by
        simp only [outR, if_pos, List.nil_append]
        rw [getD_at _ _ (show ps.length - 1 < ps.length by omega), getD_at _ _ hpos]
      have et : tip (outR ps (0 + 1)) = ps[ps.length - 1][0] := by rw [e]; rfl
      refine ⟨fun _ => ?_, ?_, ?_, ?_⟩
      · rw [et, getD_at _ _ (show ps.length - (0 + 1) < ps.length by omega)]
        exact List.getElem_mem hpos
      · rw [e]
        intro x hx
        rw [List.mem_singleton.1 hx]
        exact h.lt _ hp _ (List.getElem_mem hpos)
      · rw [et, e]
        intro x hx
        rw [List.mem_singleton.1 hx]
        exact ⟨Nat.le_refl _, Int.le_refl _⟩
      · rw [e]; simp
    · have hq : ps.length - 1 - k < ps.length := by omega
      have hm := ih.mem (by omega)
      have hq1 : ps.length - k = ps.length - 1 - k + 1 := by omega
      rw [hq1, getD_at _ _ (by omega)] at hm
      have hb := h.back (ps.length - 1 - k) (by omega) _ hm
      have hpm := List.getElem_mem hq
      obtain ⟨_, _, _, _, h1, h2, h3⟩ := back_cut hb (h.inc _ hpm)
      have e : outR ps (k + 1) = outR ps k ++ [ps[ps.length - 1 - k].getD (cutAt ps[ps.length - 1 - k] (tip (outR ps k)) - 1) 0] := by
        rw [outR, if_neg h0, getD_at _ _ hq]
      generalize ps[ps.length - 1 - k].getD (cutAt ps[ps.length - 1 - k] (tip (outR ps k)) - 1) 0 = y at *
      have et : tip (outR ps (k + 1)) = y := by rw [e, tip_snoc]
      refine ⟨fun _ => ?_, ?_, ?_, ?_⟩
      · rw [et, show ps.length - (k + 1) = ps.length - 1 - k by omega, getD_at _ _ hq]; exact h3
      · rw [e]
        intro x hx
        rcases List.mem_append.1 hx with hx | hx
        · exact ih.lt x hx
        · rw [List.mem_singleton.1 hx]; exact h.lt _ hpm _ h3
      · rw [et, e]
        intro x hx
        rcases List.mem_append.1 hx with hx | hx
        · have := ih.low x hx; omega
        · rw [List.mem_singleton.1 hx]; exact ⟨Nat.le_refl _, Int.le_refl _⟩
      · rw [e]
        refine List.pairwise_append.2 ⟨ih.down, by simp, fun a ha b hb => ?_⟩
        rw [List.mem_singleton.1 hb]
        have := ih.low a ha
        omega
end Go.Proofs.YtedchegejalolaaGreatDoor


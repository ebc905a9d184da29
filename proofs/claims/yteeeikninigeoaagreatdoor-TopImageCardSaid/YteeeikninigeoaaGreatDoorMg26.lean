import Derived.Test.YteeeikninigeoaaGreatDoorMg0
import Derived.Test.YteeeikninigeoaaGreatDoorMg25
import Derived.Test.YteeeikninigeoaaGreatDoorMg11
/- Slices of slices of int. -/
namespace Go.Proofs.YteeeikninigeoaaGreatDoor
set_option linter.unusedVariables false
open Go.RowKit

theorem info_row : (Tryz.prog.info? 22).map (fun i => (i.zero, i.size, i.bytes)) = some (some (.slice none 0 0), 1, 24) := by kernel_rfl
/-- The cells of a slice of slices of int. -/
def hdr (L : List (Option Addr × Nat × List Int)) : List Value := L.map fun x => .slice x.1 x.2.2.length x.2.1
def lists (L : List (Option Addr × Nat × List Int)) : List (List Int) := L.map fun x => x.2.2
theorem hdr_length (L : List (Option Addr × Nat × List Int)) : (hdr L).length = L.length := by simp [hdr]
theorem hdr_append (L M : List (Option Addr × Nat × List Int)) : hdr (L ++ M) = hdr L ++ hdr M := by simp [hdr]
theorem lists_append (L M : List (Option Addr × Nat × List Int)) : lists (L ++ M) = lists L ++ lists M := by simp [lists]

theorem facts_keep {w w' : World} {L : List (Option Addr × Nat × List Int)} {b : Option Nat} (h : Facts w L) (hg : w.grownBy w' b) (hne : ∀ k, b = some k → ∀ x ∈ L, blk x.1 ≠ some k) : Facts w' L :=
  fun x hx => SlC.keep (h x hx) hg (fun k hk => hne k hk x hx)

theorem facts_lt {w : World} {L : List (Option Addr × Nat × List Int)} (h : Facts w L) (hne : ∀ x ∈ L, x.2.2 ≠ []) : ∀ x ∈ L, ∀ k, blk x.1 = some k → k < w.heap.size := by
  intro x hx k hk
  have hp : 0 < (ints x.2.2).length := by
    rw [ints_length]
    exact List.length_pos_iff.2 (hne x hx)
  obtain ⟨k', hk', hlt⟩ := SlC.lt (h x hx) hp
  rw [hk] at hk'
  simp only [Option.some.injEq] at hk'
  omega

/-- A slice of slices of int, n long, that reads as D. -/
def RowsI (w : World) (a : Option Addr) (n cap : Nat) (D : List (List Int)) : Prop := ∃ L, lists L = D ∧ SlC w a n cap 1 (hdr L) ∧ Facts w L
theorem RowsI.below {w w' : World} {a : Option Addr} {n cap : Nat} {D : List (List Int)} (h : RowsI w a n cap D) (hb : Below w.heap.size w w') : RowsI w' a n cap D := by
  obtain ⟨L, h1, h2, h3⟩ := h
  exact ⟨L, h1, h2.below hb, h3.below hb⟩
theorem RowsI.len {w : World} {a : Option Addr} {n cap : Nat} {D : List (List Int)} (h : RowsI w a n cap D) : D.length = n := by
  obtain ⟨L, rfl, h2, _⟩ := h
  have := h2.hlen
  rw [hdr_length] at this
  simp [lists]; omega
theorem RowsI.at {w : World} {a : Option Addr} {n cap : Nat} {D : List (List Int)} (h : RowsI w a n cap D) (i : Nat) (hi : i < D.length) :
    ∃ b off ra rc, a = some ⟨b, off, none⟩ ∧ w.cell? ⟨b, off + i, none⟩ = some (.slice ra D[i].length rc) ∧ SlI w ra rc D[i] := by
  obtain ⟨L, rfl, h2, h3⟩ := h
  have hiL : i < L.length := by simpa [lists] using hi
  obtain ⟨b, off, ha, hc⟩ := h2.cell i (by rw [hdr_length]; exact hiL)
  have e1 : (lists L)[i] = L[i].2.2 := by simp [lists]
  refine ⟨b, off, L[i].1, L[i].2.1, ha, ?_, ?_⟩
  · rw [hc, e1]; simp [hdr]
  · rw [e1]; exact h3 _ (List.getElem_mem hiL)

end Go.Proofs.YteeeikninigeoaaGreatDoor

/- Package lis: the memory of piles, and its test. -/
namespace Go.Proofs.YteeeikninigeoaaGreatDoor
set_option linter.unusedVariables false
open Go.RowKit

def pnts (p : List Nat) : List Int := p.map Int.ofNat
theorem pnts_length (p : List Nat) : (pnts p).length = p.length := by simp [pnts]
theorem pnts_get (p : List Nat) (i : Nat) (h : i < (pnts p).length) : (pnts p)[i] = ((p[i]'(by simpa [pnts] using h) : Nat) : Int) := by simp [pnts]
theorem pnts_append (p q : List Nat) : pnts (p ++ q) = pnts p ++ pnts q := by simp [pnts]

/-- A pile, where it lies. -/
abbrev Row := Option Addr × Nat × List Nat
def hdrN (L : List Row) : List Value := L.map fun x => .slice x.1 x.2.2.length x.2.1
def psOf (L : List Row) : List (List Nat) := L.map fun x => x.2.2
theorem hdrN_length (L : List Row) : (hdrN L).length = L.length := by simp [hdrN]
theorem psOf_length (L : List Row) : (psOf L).length = L.length := by simp [psOf]
variable {B n bl bo gl gc : Nat} {a : Option Addr} {cap : Nat} {w wr : World} {so : Option Addr} {sc : Nat} {L : List Row} {len : List Int}
theorem box_keep {w w' : World} {b : Nat} {cs : Array Value} {t : TypeId} {r : Option Nat} (h : Box w b cs t) (hg : w.grownBy w' r) (hr : r ≠ some b) : Box w' b cs t := (hg.block b h.lt hr.symm).trans h
theorem box_other {w : World} {b c o : Nat} {cs : Array Value} {t : TypeId} {v : Value} (h : Box w b cs t) (hne : c ≠ b) : Box (w.setCell ⟨c, o, none⟩ v) b cs t := box_keep h (grown_set w c o v) (by simpa using hne)
theorem own_other {w : World} {B e size n m c g o : Nat} {a : Option Addr} {xs : List Value} {v : Value} (h : w.ownsRow B e size (.slice a m c) n xs) (hne : blk a ≠ some g) : (w.setCell ⟨g, o, none⟩ v).ownsRow B e size (.slice a m c) n xs :=
  own_keep h (grown_set w g o v) (fun k hk => by simp at hk; subst hk; exact hne)
end Go.Proofs.YteeeikninigeoaaGreatDoor

/- Package lis: the walk of piles. -/
namespace Go.Proofs.YteeeikninigeoaaGreatDoor
set_option linter.unusedVariables false
open Go.RowKit

def lensK (l : List Int) (n i : Nat) : List Int := (List.range n).map fun j => if j < i then ((slot l (at0 l j) (pilesK l j) + 1 : Nat) : Int) else 0
theorem lensK_length (l : List Int) (n i : Nat) : (lensK l n i).length = n := by simp [lensK]
theorem lensK_zero (l : List Int) (n : Nat) : lensK l n 0 = List.replicate n 0 := by
  apply List.ext_getElem
  · simp [lensK]
  · intro i h1 h2; simp [lensK]
theorem lensK_set (l : List Int) (n i : Nat) (h : i < n) : (lensK l n i).set i ((slot l (at0 l i) (pilesK l i) + 1 : Nat) : Int) = lensK l n (i + 1) := by
  apply List.ext_getElem
  · simp [lensK]
  · intro j h1 h2
    rw [List.getElem_set]
    by_cases e : i = j
    · subst e; rw [if_pos rfl]; simp [lensK]
    · rw [if_neg e]
      simp only [lensK, List.getElem_map, List.getElem_range]
      by_cases hj : j < i
      · rw [if_pos hj, if_pos (by omega)]
      · rw [if_neg hj, if_neg (by omega)]
attribute [irreducible] lensK
theorem mem_len {ps : List (List Nat)} {p : List Nat} (h : p ∈ ps) : p.length ≤ (ps.map List.length).sum := by
  induction ps with
  | nil => cases h
  | cons q ps ih =>
    simp only [List.map_cons, List.sum_cons]
    rcases List.mem_cons.1 h with rfl | h
    · omega
    · have := ih h; omega

end Go.Proofs.YteeeikninigeoaaGreatDoor


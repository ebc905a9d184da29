/- Slices of slices of int. -/
import Derived.Test.YtmfmknpkeniifaaKeep
namespace Go.Proofs.Ytmfmknpkeniifaa
set_option linter.unusedVariables false
open Go.RowKit

theorem info_row : (Try.prog.info? 38).map (fun i => (i.zero, i.size, i.bytes)) = some (some (.slice none 0 0), 1, 24) := by kernel_rfl
theorem tRows : ElemTy Try.prog 103 38 1 24 (.slice none 0 0) :=
  ⟨Try.underlying103, by obtain ⟨i0, hi, h0, h1, h2⟩ := info_parts info_row; exact ⟨i0, hi, h0, h1, h2⟩, rfl, by decide⟩

/-- The cells of a slice of slices of int. -/
def hdr (L : List (Option Addr × Nat × List Int)) : List Value := L.map fun x => .slice x.1 x.2.2.length x.2.1
def lists (L : List (Option Addr × Nat × List Int)) : List (List Int) := L.map fun x => x.2.2
theorem hdr_length (L : List (Option Addr × Nat × List Int)) : (hdr L).length = L.length := by simp [hdr]
theorem hdr_append (L M : List (Option Addr × Nat × List Int)) : hdr (L ++ M) = hdr L ++ hdr M := by simp [hdr]
theorem lists_append (L M : List (Option Addr × Nat × List Int)) : lists (L ++ M) = lists L ++ lists M := by simp [lists]

theorem facts_keep {w w' : World} {L : List (Option Addr × Nat × List Int)} {b : Option Nat} (h : Facts w L) (hg : w.grownBy w' b) (hne : ∀ k, b = some k → ∀ x ∈ L, blk x.1 ≠ some k) : Facts w' L :=
  fun x hx => SlC.keep (h x hx) hg (fun k hk => hne k hk x hx)

theorem facts_lt {w : World} {L : List (Option Addr × Nat × List Int)} (h : Facts w L) (hne : ∀ x ∈ L, x.2.2 ≠ []) : ∀ x ∈ L, ∀ k, blk x.1 = some k → k < w.heap.size := by
  intro x hx k hk
  have hp : 0 < (ints x.2.2).length := by
    rw [ints_length]
    exact List.length_pos_iff.2 (hne x hx)
  obtain ⟨k', hk', hlt⟩ := SlC.lt (h x hx) hp
  rw [hk] at hk'
  simp only [Option.some.injEq] at hk'
  omega

/-- A slice of slices of int, n long, that reads as D. -/
def RowsI (w : World) (a : Option Addr) (n cap : Nat) (D : List (List Int)) : Prop := ∃ L, lists L = D ∧ SlC w a n cap 1 (hdr L) ∧ Facts w L
theorem RowsI.below {w w' : World} {a : Option Addr} {n cap : Nat} {D : List (List Int)} (h : RowsI w a n cap D) (hb : Below w.heap.size w w') : RowsI w' a n cap D := by
  obtain ⟨L, h1, h2, h3⟩ := h
  exact ⟨L, h1, h2.below hb, h3.below hb⟩
theorem RowsI.len {w : World} {a : Option Addr} {n cap : Nat} {D : List (List Int)} (h : RowsI w a n cap D) : D.length = n := by
  obtain ⟨L, rfl, h2, _⟩ := h
  have := h2.hlen
  rw [hdr_length] at this
  simp [lists]; omega
theorem RowsI.at {w : World} {a : Option Addr} {n cap : Nat} {D : List (List Int)} (h : RowsI w a n cap D) (i : Nat) (hi : i < D.length) :
    ∃ b off ra rc, a = some ⟨b, off, none⟩ ∧ w.cell? ⟨b, off + i, none⟩ = some (.slice ra D[i].length rc) ∧ SlI w ra rc D[i] := by
  obtain ⟨L, rfl, h2, h3⟩ := h
  have hiL : i < L.length := by simpa [lists] using hi
  obtain ⟨b, off, ha, hc⟩ := h2.cell i (by rw [hdr_length]; exact hiL)
  have e1 : (lists L)[i] = L[i].2.2 := by simp [lists]
  refine ⟨b, off, L[i].1, L[i].2.1, ha, ?_, ?_⟩
  · rw [hc, e1]; simp [hdr]
  · rw [e1]; exact h3 _ (List.getElem_mem hiL)

end Go.Proofs.Ytmfmknpkeniifaa

import Derived.Test.YteeeikninigeoaaDoorMPo
import Derived.Test.YteeeikninigeoaaDoorRank
import Derived.Test.YteeeikninigeoaaDoorFlat
/- Package wave: waves in memory; length, May, rank, down. -/
namespace Go.Proofs.YteeeikninigeoaaDoor
set_option linter.unusedVariables false
open Go.RowKit

/-- A row of bits in memory. -/
def BitsIn (w : World) (sa : Option Addr) (cap : Nat) (E : List Bool) : Prop :=
  w.ownsRow 0 92 1 (.slice sa (bwN E.length) cap) (bwN E.length) (wds (wordsOf (bitsN E E.length) (bwN E.length)))
theorem BitsIn.below {w w' : World} {sa : Option Addr} {cap : Nat} {E : List Bool} (h : BitsIn w sa cap E) (hb : Below w.heap.size w w') : BitsIn w' sa cap E := own_below h hb
/-- The cells of a level. -/
def lvC (x : Option Addr × Nat × List Bool) : List Value := [.int .i64 x.2.2.length, .slice x.1 (bwN x.2.2.length) x.2.1]
theorem lvC_len (x : Option Addr × Nat × List Bool) : (lvC x).length = 2 := rfl
theorem lvC_one (x : Option Addr × Nat × List Bool) : ∀ u ∈ lvC x, u.oneCell' = true := by
  intro u hu
  simp only [lvC, List.mem_cons, List.not_mem_nil, or_false] at hu
  rcases hu with rfl | rfl <;> rfl
/-- The rows of a wave. -/
def rowsW (K : Nat) (l : List Nat) : List (List Bool) := (List.range K).map (rowAt K l)
theorem rowsW_length (K : Nat) (l : List Nat) : (rowsW K l).length = K := by simp [rowsW]
theorem rowsW_at (K : Nat) (l : List Nat) (j : Nat) (h : j < (rowsW K l).length) : (rowsW K l)[j] = rowAt K l j := by simp [rowsW]
/-- A wave of K levels of a list, in memory. -/
def IsWave (w : World) (a : Option Addr) (cap K : Nat) (l : List Nat) : Prop :=
  ∃ L : List (Option Addr × Nat × List Bool), L.map (fun x => x.2.2) = rowsW K l ∧ w.ownsRow 0 132 2 (.slice a K cap) K (flat lvC L) ∧ ∀ x ∈ L, BitsIn w x.1 x.2.1 x.2.2
theorem IsWave.below {w w' : World} {a : Option Addr} {cap K : Nat} {l : List Nat} (h : IsWave w a cap K l) (hb : Below w.heap.size w w') : IsWave w' a cap K l := by
  obtain ⟨L, h1, h2, h3⟩ := h
  exact ⟨L, h1, own_below h2 hb, fun x hx => (h3 x hx).below hb⟩
theorem IsWave.at {w : World} {a : Option Addr} {cap K n : Nat} {l : List Nat} (h : IsWave w a cap K l) (hn : l.length = n) (j : Nat) (hj : j < K) :
    ∃ b off sa sc, a = some ⟨b, off, none⟩ ∧ b < w.heap.size ∧ w.cell? ⟨b, off + j * 2, none⟩ = some (.int .i64 n) ∧ w.cell? ⟨b, off + j * 2 + 1, none⟩ = some (.slice sa (bwN n) sc) ∧ BitsIn w sa sc (rowAt K l j) := by
  obtain ⟨L, h1, h2, h3⟩ := h
  have hL : L.length = K := by
    have := congrArg List.length h1
    rwa [List.length_map, rowsW_length] at this
  have hjL : j < L.length := by omega
  obtain ⟨b, off, ha, hb, hc⟩ := SlF.at lvC_len (by omega) (own_slc h2 : SlF lvC 2 w a K cap L) j hjL
  have e1 : L[j].2.2 = rowAt K l j := by
    have h4 : (L.map (fun x => x.2.2))[j]? = (rowsW K l)[j]? := by rw [h1]
    rw [List.getElem?_map, List.getElem?_eq_getElem hjL, List.getElem?_eq_getElem (by rw [rowsW_length]; exact hj), rowsW_at] at h4
    simpa using h4
  have e2 : L[j].2.2.length = n := by rw [e1, rowAt_length, hn]
  refine ⟨b, off, L[j].1, L[j].2.1, ha, hb, ?_, ?_, ?_⟩
  · have := hc 0 (by omega)
    rw [show (lvC L[j])[0]? = some (.int .i64 (L[j].2.2.length : Nat)) from rfl, e2] at this
    exact this
  · have := hc 1 (by omega)
    rw [show (lvC L[j])[1]? = some (.slice L[j].1 (bwN L[j].2.2.length) L[j].2.1) from rfl, e2] at this
    exact this
  · have := h3 _ (List.getElem_mem hjL)
    rwa [e1] at this
attribute [irreducible] IsWave

theorem dwn_true (E : List Bool) (i : Nat) : dwn E i true = E.length - cntB E E.length + cntB E i := by unfold dwn; rfl
theorem dwn_false (E : List Bool) (i : Nat) : dwn E i false = i - cntB E i := by unfold dwn; rfl

end Go.Proofs.YteeeikninigeoaaDoor


/- Plain facts on points. -/
import Derived.Test.YteeeikninigeoaaDoorNumP
import Derived.Test.YteeeikninigeoaaDoorFlat
namespace Go.Proofs.YteeeikninigeoaaDoor
set_option linter.unusedVariables false
open Go.RowKit

/-- A point. -/
structure Pt where
  x : Int
  y : Int
  w : Int
instance : Inhabited Pt := ⟨⟨0, 0, 0⟩⟩

def ptL (p : Pt) : List Value := [.int .i64 p.x, .int .i64 p.y, .int .i64 p.w]
theorem ptL_len (p : Pt) : (ptL p).length = 3 := rfl
theorem ptL_one (p : Pt) : ∀ u ∈ ptL p, u.oneCell' = true := by simp [ptL, Value.oneCell']
abbrev pt0 : Pt := ⟨0, 0, 0⟩
structure Pt.Wf (p : Pt) : Prop where
  x : (Lit.int .i64 p.x).wf = true
  y : (Lit.int .i64 p.y).wf = true
  w : (Lit.int .i64 p.w).wf = true
/-- All coordinates are near. -/
def Pt.Near (p : Pt) : Prop := (-1048576 ≤ p.x ∧ p.x ≤ 1048576) ∧ (-1048576 ≤ p.y ∧ p.y ≤ 1048576) ∧ (-1048576 ≤ p.w ∧ p.w ≤ 1048576)
/-- The point of a raw spot. -/
def ptOf (bound : Int) (s : Pt) : Pt := ⟨pick s.x bound, pick s.y bound, pick s.w 20⟩
def ptsOf (L : List Pt) (n : Nat) (bound : Int) : List Pt := (L.take n).map (ptOf bound)
theorem ptsOf_length (L : List Pt) (n : Nat) (bound : Int) : (ptsOf L n bound).length = min n L.length := by simp [ptsOf]
theorem ptsOf_succ (L : List Pt) (k : Nat) (bound : Int) (h : k < L.length) : ptsOf L (k + 1) bound = ptsOf L k bound ++ [ptOf bound L[k]] := by
  rw [ptsOf, List.take_succ_eq_append_getElem h, List.map_append]; rfl
theorem ptsOf_bd (L : List Pt) (n : Nat) (bound : Int) (h : 0 < bound) : ∀ p ∈ ptsOf L n bound, (0 ≤ p.x ∧ p.x < bound) ∧ (0 ≤ p.y ∧ p.y < bound) ∧ (0 ≤ p.w ∧ p.w < 20) := by
  intro p hp
  obtain ⟨s, _, rfl⟩ := List.mem_map.1 hp
  exact ⟨pick_bd s.x bound h, pick_bd s.y bound h, pick_bd s.w 20 (by omega)⟩
attribute [irreducible] ptsOf

/-- The spots that came in. -/
theorem spots_in {w : World} {a : Option Addr} {len cap : Nat} {zs : List Int} (h : IsFlat 3 w a len cap zs) : ∃ L : List Pt, SlF ptL 3 w a len cap L ∧ (∀ x ∈ L, x.Wf) ∧ len ≤ maxLen := by
  obtain ⟨h1, h2, h3, h4⟩ := flat_slc (by omega) h
  have key : ∀ (n : Nat) (zs : List Int), zs.length = n * 3 → (∀ n ∈ zs, (Lit.int .i64 n).wf = true) → ∃ L : List Pt, flat ptL L = ints zs ∧ ∀ x ∈ L, x.Wf := by
    intro n
    induction n with
    | zero =>
      intro zs hz _
      obtain rfl : zs = [] := List.length_eq_zero_iff.1 (by omega)
      exact ⟨[], rfl, by simp⟩
    | succ n ih =>
      intro zs hz hw
      match zs, hz, hw with
      | a :: b :: c :: zs, hz, hw =>
        obtain ⟨L, hL, hwL⟩ := ih zs (by simp at hz; omega) (fun n hn => hw n (by simp [hn]))
        refine ⟨⟨a, b, c⟩ :: L, ?_, fun x hx => ?_⟩
        · have : flat ptL (⟨a, b, c⟩ :: L) = ptL ⟨a, b, c⟩ ++ flat ptL L := by simp [flat]
          rw [this, hL]; rfl
        · rcases List.mem_cons.1 hx with rfl | hx
          · exact ⟨hw a (by simp), hw b (by simp), hw c (by simp)⟩
          · exact hwL x hx
      | [], hz, _ => simp at hz
      | [_], hz, _ => simp at hz; omega
      | [_, _], hz, _ => simp at hz; omega
  obtain ⟨L, hL, hw⟩ := key len zs h4 h2
  exact ⟨L, by unfold SlF; rw [hL]; exact h1, hw, h3⟩

end Go.Proofs.YteeeikninigeoaaDoor

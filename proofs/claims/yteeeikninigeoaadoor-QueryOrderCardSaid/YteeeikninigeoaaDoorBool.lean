/- Slices of bool. -/
import Derived.Test.YteeeikninigeoaaDoorKeep
namespace Go.Proofs.YteeeikninigeoaaDoor
set_option linter.unusedVariables false
open Go.RowKit

theorem info_bool : (Tryd.prog.info? 4).map (fun i => (i.zero, i.size, i.bytes)) = some (some (.bool false), 1, 1) := by kernel_rfl
theorem tBools : ElemTy Tryd.prog 44 4 1 1 (.bool false) :=
  ⟨Tryd.underlying44, by obtain ⟨i0, hi, h0, h1, h2⟩ := info_parts info_bool; exact ⟨i0, hi, h0, h1, h2⟩, rfl, by decide⟩
def bls (l : List Bool) : List Value := l.map .bool
theorem bls_length (l : List Bool) : (bls l).length = l.length := by simp [bls]
theorem bls_append (l m : List Bool) : bls (l ++ m) = bls l ++ bls m := by simp [bls]
theorem bls_get (l : List Bool) (i : Nat) (h : i < (bls l).length) : (bls l)[i] = .bool (l[i]'(by simpa [bls] using h)) := by simp [bls]
theorem bls_one (l : List Bool) : ∀ u ∈ bls l, u.oneCell' = true := by
  intro u hu
  obtain ⟨x, _, rfl⟩ := List.mem_map.1 hu
  rfl
theorem bls_set (l : List Bool) (i : Nat) (x : Bool) : (bls l).set i (.bool x) = bls (l.set i x) := by simp [bls, List.map_set]
/-- A slice of bool, n long, that reads as l. -/
def SlBo (w : World) (a : Option Addr) (n cap : Nat) (l : List Bool) : Prop := SlC w a n cap 1 (bls l)
theorem SlBo.at {w : World} {a : Option Addr} {n cap : Nat} {l : List Bool} (h : SlBo w a n cap l) (i : Nat) (hi : i < l.length) : ∃ b off, a = some ⟨b, off, none⟩ ∧ w.cell? ⟨b, off + i, none⟩ = some (.bool l[i]) := by
  obtain ⟨b, off, ha, hc⟩ := SlC.cell h i (by rw [bls_length]; exact hi)
  exact ⟨b, off, ha, by rw [hc, bls_get]⟩
theorem SlBo.len {w : World} {a : Option Addr} {n cap : Nat} {l : List Bool} (h : SlBo w a n cap l) : l.length = n := by
  have := h.hlen
  rw [bls_length] at this; omega
/-- A slice of bool of the call's own. -/
def OwnBo (B : Nat) (w : World) (a : Option Addr) (n cap : Nat) (l : List Bool) : Prop := w.ownsRow B 4 1 (.slice a n cap) n (bls l)
theorem OwnBo.sl {B : Nat} {w : World} {a : Option Addr} {n cap : Nat} {l : List Bool} (h : OwnBo B w a n cap l) : SlBo w a n cap l := own_slc h
theorem OwnBo.len {B : Nat} {w : World} {a : Option Addr} {n cap : Nat} {l : List Bool} (h : OwnBo B w a n cap l) : l.length = n := h.sl.len
/-- What a call hands back: a slice of bool of its own. -/
def RetBo (w : World) (l : List Bool) (e : Ending) (w' : World) : Prop := ∃ a cap, e = .returned (.slice a l.length cap) ∧ OwnBo w.heap.size w' a l.length cap l ∧ Below w.heap.size w w'

end Go.Proofs.YteeeikninigeoaaDoor

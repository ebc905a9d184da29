/- Texts in memory. -/
import Derived.Test.YtakabjkhcdkkjaaDoorQryP
namespace Go.Proofs.YtakabjkhcdkkjaaDoor
set_option linter.unusedVariables false
open Go.RowKit

/-- The table of the library that numerals are made by. -/
def Tab (w : World) : Prop := Lib.TabIs Tryd.prog w "internal/strconv.uint64pow10" .u64 Lib.pow10Tab
theorem var_below {w w' : World} {name : String} {cs : Array Value} (h : w.var? Tryd.prog name = some cs) (hb : Below w.heap.size w w') : w'.var? Tryd.prog name = some cs := by
  unfold World.var? at *
  cases hg : Tryd.prog.globalNamed name with
  | none => rw [hg] at h; cases h
  | some g =>
    rw [hg] at h
    simp only [Option.bind_some] at h ⊢
    by_cases hlt : g < w.heap.size
    · rw [hb.block g hlt]; exact h
    · rw [Array.getElem?_eq_none (by omega)] at h; cases h
theorem Tab.below {w w' : World} (h : Tab w) (hb : Below w.heap.size w w') : Tab w' := var_below h hb
/-- A text. -/
abbrev str (t : List UInt8) : Value := .string ⟨t.toArray⟩
theorem str_add (a b : List UInt8) : ((⟨a.toArray⟩ : ByteArray) ++ ⟨b.toArray⟩) = ⟨(a ++ b).toArray⟩ := by
  apply ByteArray.ext
  rw [ByteArray.data_append]
  simp

theorem str_size {t : List UInt8} {n : Nat} (h : t.length ≤ n) : (⟨t.toArray⟩ : ByteArray).size ≤ n := by
  show t.toArray.size ≤ n
  simpa using h

theorem info_strs : (Tryd.prog.info? 9).map (fun i => (i.zero, i.size, i.bytes)) = some (some (.string ⟨#[]⟩), 1, 16) := by kernel_rfl
theorem tStrs : ElemTy Tryd.prog 43 9 1 16 (.string ⟨#[]⟩) :=
  ⟨Tryd.underlying43, by obtain ⟨i0, hi, h0, h1, h2⟩ := info_parts info_strs; exact ⟨i0, hi, h0, h1, h2⟩, rfl, by decide⟩
def strs (l : List (List UInt8)) : List Value := l.map str
theorem strs_append (l m : List (List UInt8)) : strs (l ++ m) = strs l ++ strs m := by simp [strs]
theorem strs_length (l : List (List UInt8)) : (strs l).length = l.length := by simp [strs]

end Go.Proofs.YtakabjkhcdkkjaaDoor

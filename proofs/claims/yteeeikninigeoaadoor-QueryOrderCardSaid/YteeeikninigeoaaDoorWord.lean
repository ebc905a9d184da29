import Derived.Test.YteeeikninigeoaaDoorMPo
/- Slices of words of 64 bits. -/
namespace Go.Proofs.YteeeikninigeoaaDoor
set_option linter.unusedVariables false
open Go.RowKit

theorem info_word : (Tryd.prog.info? 92).map (fun i => (i.zero, i.size, i.bytes)) = some (some (.int .u64 0), 1, 8) := by kernel_rfl
theorem tWords : ElemTy Tryd.prog 130 92 1 8 (.int .u64 0) :=
  ⟨Tryd.underlying130, by obtain ⟨i0, hi, h0, h1, h2⟩ := info_parts info_word; exact ⟨i0, hi, h0, h1, h2⟩, rfl, by decide⟩
def wds (l : List Nat) : List Value := l.map fun (n : Nat) => .int .u64 (n : Int)
theorem wds_length (l : List Nat) : (wds l).length = l.length := by simp [wds]
theorem wds_set (l : List Nat) (i x : Nat) : (wds l).set i (.int .u64 x) = wds (l.set i x) := by simp [wds, List.map_set]
theorem wds_cell {w : World} {B e g m cap j N : Nat} (h : w.ownsRow B e 1 (.slice (some ⟨g, 0, none⟩) m cap) m (wds (wordsOf N m))) (hj : j < m) :
    w.cell? ⟨g, j, none⟩ = some (.int .u64 (wrd N j)) := by
  rw [h.cellAt j (by omega)]
  simp [wds, wordsOf_get N m j hj]

theorem wrap_shl (n r : Nat) : IntKind.u64.wrap ((n : Int) * 2 ^ r) = ((n * 2 ^ r % 2 ^ 64 : Nat) : Int) := by
  have e : (n : Int) * 2 ^ r = ((n * 2 ^ r : Nat) : Int) := by push_cast; rfl
  rw [e, IntKind.wrap_u64]
  generalize n * 2 ^ r = y
  omega
theorem or_shl (x n r : Nat) (hx : x < 18446744073709551616) : bits .or .u64 (x : Int) (IntKind.u64.wrap ((n : Int) * 2 ^ r)) = ((x ||| n * 2 ^ r % 2 ^ 64 : Nat) : Int) := by
  rw [wrap_shl]
  exact u64_or_nat x _ hx (Nat.mod_lt _ (by decide))

end Go.Proofs.YteeeikninigeoaaDoor


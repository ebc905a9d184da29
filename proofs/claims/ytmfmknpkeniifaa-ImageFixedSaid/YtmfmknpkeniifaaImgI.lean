/- Bytes that come in, and how long they may be. -/
import Derived.Test.YtmfmknpkeniifaaByt
import Derived.SizedLaws
import Derived.OpenShut
namespace Go.Proofs.Ytmfmknpkeniifaa
set_option linter.unusedVariables false
open Go.RowKit Go.ChangeShapes Go.WideShapes

theorem row_slb {w : World} {a : Option Addr} {len cap : Nat} {zs : List Int} (h : IsRow .u8 w a len cap zs) :
    ∃ l : List Nat, len = l.length ∧ SlB w a l.length cap l ∧ (∀ x ∈ l, x < 256) ∧ l.length ≤ maxLen := by
  obtain ⟨l, rfl, hs, hw, hl⟩ := row_slc h
  have hb : ∀ x ∈ l, 0 ≤ x ∧ x < 256 := fun x hx => by
    have := hw x hx
    have : 0 ≤ x ∧ x ≤ 255 := by simpa [Lit.wf, IntKind.min, IntKind.max, IntKind.signed, IntKind.bits] using this
    omega
  have he : byts (l.map Int.toNat) = l.map (.int .u8) := by
    rw [byts, List.map_map]
    refine List.map_congr_left fun x hx => ?_
    have := hb x hx
    simp only [Function.comp]
    rw [Int.toNat_of_nonneg this.1]
  refine ⟨l.map Int.toNat, by simp, ?_, fun x hx => ?_, by simpa using hl⟩
  · rw [List.length_map]; unfold SlB; rw [he]; exact hs
  · obtain ⟨y, hy, rfl⟩ := List.mem_map.1 hx
    have := hb y hy
    omega


end Go.Proofs.Ytmfmknpkeniifaa

/- A work: raw numbers of a law. -/
import Derived.Test.YtdjcmemdlmfgpaaNumP
import Derived.Test.YtdjcmemdlmfgpaaFlat
namespace Go.Proofs.Ytdjcmemdlmfgpaa
set_option linter.unusedVariables false
open Go.RowKit

/-- A work: kind, a, b, by. -/
structure Wk where
  kind : Int
  a : Int
  b : Int
  amt : Int
def wkL (x : Wk) : List Value := [.int .i64 x.kind, .int .i64 x.a, .int .i64 x.b, .int .i64 x.amt]
theorem wkL_len (x : Wk) : (wkL x).length = 4 := rfl
structure Wk.Wf (x : Wk) : Prop where
  k : (Lit.int .i64 x.kind).wf = true
  a : (Lit.int .i64 x.a).wf = true
  b : (Lit.int .i64 x.b).wf = true
  y : (Lit.int .i64 x.amt).wf = true
abbrev wk0 : Wk := ⟨0, 0, 0, 0⟩

/-- The works that came in. -/
theorem works_in {w : World} {a : Option Addr} {len cap : Nat} {zs : List Int} (h : IsFlat 4 w a len cap zs) : ∃ L : List Wk, SlF wkL 4 w a len cap L ∧ (∀ x ∈ L, x.Wf) ∧ len ≤ maxLen := by
  obtain ⟨h1, h2, h3, h4⟩ := flat_slc (by omega) h
  have key : ∀ (n : Nat) (zs : List Int), zs.length = n * 4 → (∀ n ∈ zs, (Lit.int .i64 n).wf = true) → ∃ L : List Wk, flat wkL L = ints zs ∧ ∀ x ∈ L, x.Wf := by
    intro n
    induction n with
    | zero =>
      intro zs hz _
      obtain rfl : zs = [] := List.length_eq_zero_iff.1 (by omega)
      exact ⟨[], rfl, by simp⟩
    | succ n ih =>
      intro zs hz hw
      match zs, hz, hw with
      | a :: b :: c :: d :: zs, hz, hw =>
        obtain ⟨L, hL, hwL⟩ := ih zs (by simp at hz; omega) (fun n hn => hw n (by simp [hn]))
        refine ⟨⟨a, b, c, d⟩ :: L, ?_, fun x hx => ?_⟩
        · have : flat wkL (⟨a, b, c, d⟩ :: L) = wkL ⟨a, b, c, d⟩ ++ flat wkL L := by simp [flat]
          rw [this, hL]; rfl
        · rcases List.mem_cons.1 hx with rfl | hx
          · exact ⟨hw a (by simp), hw b (by simp), hw c (by simp), hw d (by simp)⟩
          · exact hwL x hx
      | [], hz, _ => simp at hz
      | [_], hz, _ => simp at hz; omega
      | [_, _], hz, _ => simp at hz; omega
      | [_, _, _], hz, _ => simp at hz; omega
  obtain ⟨L, hL, hw⟩ := key len zs h4 h2
  exact ⟨L, by unfold SlF; rw [hL]; exact h1, hw, h3⟩

end Go.Proofs.Ytdjcmemdlmfgpaa

/- How many bits a number has. -/
import Derived.Test.YtnieacfleabikaaShelf
import Derived.Test.YtnieacfleabikaaKeep
namespace Go.Proofs.Ytnieacfleabikaa
set_option linter.unusedVariables false
open Go.RowKit

theorem bitLenAux_lt : ∀ (f x : Nat), x < 2 ^ f → x < 2 ^ Lib.bitLenAux f x
  | 0, x, h => h
  | f + 1, x, h => by
    rw [Lib.bitLenAux]
    split
    · rename_i hx; rw [hx]; decide
    · have := bitLenAux_lt f (x / 2) (by rw [Nat.pow_succ] at h; omega)
      rw [Nat.pow_add]; omega
theorem bitLen_lt (x : Nat) (h : x < 2 ^ 64) : x < 2 ^ Lib.bitLen x := bitLenAux_lt 64 x h
theorem bitLenAux_pred : ∀ (f x : Nat), x ≠ 0 → 0 < f → 2 ^ (Lib.bitLenAux f x - 1) ≤ x
  | 0, x, h, hf => by omega
  | f + 1, x, h, _ => by
    rw [Lib.bitLenAux]
    rw [if_neg h, show 1 + Lib.bitLenAux f (x / 2) - 1 = Lib.bitLenAux f (x / 2) by omega]
    by_cases h2 : x / 2 = 0
    · rw [h2, show Lib.bitLenAux f 0 = 0 by cases f <;> simp [Lib.bitLenAux]]; simp; omega
    · by_cases hf : f = 0
      · subst hf; simp [Lib.bitLenAux]; omega
      · have := bitLenAux_pred f (x / 2) h2 (by omega)
        have h3 : 0 < Lib.bitLenAux f (x / 2) := by
          obtain ⟨f', rfl⟩ : ∃ f', f = f' + 1 := ⟨f - 1, by omega⟩
          rw [Lib.bitLenAux]; rw [if_neg h2]; omega
        obtain ⟨b, hb⟩ : ∃ b, Lib.bitLenAux f (x / 2) = b + 1 := ⟨Lib.bitLenAux f (x / 2) - 1, by omega⟩
        rw [hb] at this ⊢
        rw [Nat.add_sub_cancel] at this
        rw [Nat.pow_succ]; omega
theorem bitLen_pred (x : Nat) (h : x ≠ 0) : 2 ^ (Lib.bitLen x - 1) ≤ x := bitLenAux_pred 64 x h (by omega)
theorem bitLen_zero : Lib.bitLen 0 = 0 := rfl

theorem len_any (n : Nat) (hn : n < 18446744073709551616) (W : World) : Calls Try.prog 55 #[.int .u64 n] W fun e w' => e = .returned (.int .i64 (Lib.bitLen n : Nat)) ∧ W = w' := by
  have := Try.bits_Len ((n : Nat) : Int) W (by omega) (by omega)
  rw [Int.toNat_natCast] at this
  exact this.mono fun _ _ ⟨h1, h2⟩ => ⟨h1, h2.symm⟩
end Go.Proofs.Ytnieacfleabikaa

import Derived.Test.YteeeikninigeoaaDoorMPo
/- Package pop: bits of a word. -/
namespace Go.Proofs.YteeeikninigeoaaDoor
set_option linter.unusedVariables false
open Go.RowKit

theorem band (a b : Nat) (c d : Int) (ha : a < 18446744073709551616) (hb : b < 18446744073709551616) (hc : c = a) (hd : d = b) : bits BinOp.and IntKind.u64 c d = ((a &&& b : Nat) : Int) := by
  subst hc; subst hd
  exact bits_and_u64_nat a b ha hb
theorem uwrap (a : Nat) (c : Int) (hc : c = a) (ha : a < 18446744073709551616) : IntKind.u64.wrap c = (a : Int) := by
  subst hc
  exact IntWalk.u64_in _ (by omega)

/-- The steps of the count as the walk has them. -/
theorem unot (x : Nat) (h : x < 18446744073709551616) : bits BinOp.xor IntKind.u64 IntKind.u64.max (x : Int) = ((18446744073709551615 - x : Nat) : Int) := by
  rw [← xor_ones x h]
  exact u64_xor_nat 18446744073709551615 x (by omega) h
theorem oc_steps (x : Nat) (h : x < 18446744073709551616) : ∃ p1 p2 a q1 q2 b c0 c d e f : Nat,
    bits BinOp.and IntKind.u64 ((x : Int) / 2) 6148914691236517205 = (p1 : Int) ∧ bits BinOp.and IntKind.u64 (x : Int) 6148914691236517205 = (p2 : Int) ∧ IntKind.u64.wrap ((p1 : Int) + p2) = (a : Int) ∧
    bits BinOp.and IntKind.u64 ((a : Int) / 4) 3689348814741910323 = (q1 : Int) ∧ bits BinOp.and IntKind.u64 (a : Int) 3689348814741910323 = (q2 : Int) ∧ IntKind.u64.wrap ((q1 : Int) + q2) = (b : Int) ∧
    IntKind.u64.wrap ((b : Int) / 16 + b) = (c0 : Int) ∧ bits BinOp.and IntKind.u64 (c0 : Int) 1085102592571150095 = (c : Int) ∧
    IntKind.u64.wrap ((c : Int) + (c : Int) / 256) = (d : Int) ∧ IntKind.u64.wrap ((d : Int) + (d : Int) / 65536) = (e : Int) ∧ IntKind.u64.wrap ((e : Int) + (e : Int) / 4294967296) = (f : Int) ∧
    f &&& 127 = pcn 64 x ∧ f < 9223372036854775808 := by
  have a1 : (x / 2 &&& 6148914691236517205) ≤ 6148914691236517205 := Nat.and_le_right
  have a2 : (x &&& 6148914691236517205) ≤ 6148914691236517205 := Nat.and_le_right
  obtain ⟨p1, hp1⟩ : ∃ p, p = x / 2 &&& 6148914691236517205 := ⟨_, rfl⟩
  obtain ⟨p2, hp2⟩ : ∃ p, p = x &&& 6148914691236517205 := ⟨_, rfl⟩
  obtain ⟨a, ha⟩ : ∃ a, a = p1 + p2 := ⟨_, rfl⟩
  have a3 : (a / 4 &&& 3689348814741910323) ≤ 3689348814741910323 := Nat.and_le_right
  have a4 : (a &&& 3689348814741910323) ≤ 3689348814741910323 := Nat.and_le_right
  obtain ⟨q1, hq1⟩ : ∃ p, p = a / 4 &&& 3689348814741910323 := ⟨_, rfl⟩
  obtain ⟨q2, hq2⟩ : ∃ p, p = a &&& 3689348814741910323 := ⟨_, rfl⟩
  obtain ⟨b, hb⟩ : ∃ b, b = q1 + q2 := ⟨_, rfl⟩
  obtain ⟨c0, hc0⟩ : ∃ c, c = b / 16 + b := ⟨_, rfl⟩
  have a5 : (c0 &&& 1085102592571150095) ≤ 1085102592571150095 := Nat.and_le_right
  obtain ⟨c, hc⟩ : ∃ c, c = c0 &&& 1085102592571150095 := ⟨_, rfl⟩
  obtain ⟨d, hd⟩ : ∃ c', c' = c + c / 256 := ⟨_, rfl⟩
  obtain ⟨e, he⟩ : ∃ c', c' = d + d / 65536 := ⟨_, rfl⟩
  obtain ⟨f, hf⟩ : ∃ c', c' = e + e / 4294967296 := ⟨_, rfl⟩
  rw [← hp1] at a1
  rw [← hp2] at a2
  rw [← hq1] at a3
  rw [← hq2] at a4
  rw [← hc] at a5
  refine ⟨p1, p2, a, q1, q2, b, c0, c, d, e, f, ?_, ?_, ?_, ?_, ?_, ?_, ?_, ?_, ?_, ?_, ?_, ?_, ?_⟩
  · rw [hp1]; exact band (x / 2) _ _ _ (by omega) (by omega) (by omega) rfl
  · rw [hp2]; exact band x _ _ _ (by omega) (by omega) (by omega) rfl
  · exact uwrap a _ (by omega) (by omega)
  · rw [hq1]; exact band (a / 4) _ _ _ (by omega) (by omega) (by omega) rfl
  · rw [hq2]; exact band a _ _ _ (by omega) (by omega) (by omega) rfl
  · exact uwrap b _ (by omega) (by omega)
  · exact uwrap c0 _ (by omega) (by omega)
  · rw [hc]; exact band c0 _ _ _ (by omega) (by omega) (by omega) rfl
  · exact uwrap d _ (by omega) (by omega)
  · exact uwrap e _ (by omega) (by omega)
  · exact uwrap f _ (by omega) (by omega)
  · rw [← oc64_eq x h, hf, he, hd, hc, hc0, hb, hq1, hq2, ha, hp1, hp2]
    rfl
  · omega

/-- A mask of i ones. -/
theorem mask_and (x i : Nat) (h : x < 18446744073709551616) (hi : i ≤ 64) :
    bits BinOp.and IntKind.u64 (x : Int) (IntKind.u64.wrap (IntKind.u64.wrap (2 ^ i) - 1)) = ((x % 2 ^ i : Nat) : Int) := by
  have hw : IntKind.u64.wrap (IntKind.u64.wrap (2 ^ i) - 1) = ((2 ^ i - 1 : Nat) : Int) := by
    by_cases h64 : i = 64
    · subst h64; rfl
    · have hlt : (2 : Nat) ^ i ≤ 2 ^ 63 := Nat.pow_le_pow_right (by omega) (by omega)
      have hp : 0 < (2 : Nat) ^ i := Nat.pow_pos (by omega)
      have e1 : IntKind.u64.wrap (2 ^ i) = ((2 ^ i : Nat) : Int) := uwrap (2 ^ i) _ (by simp) (by omega)
      rw [e1]
      exact uwrap (2 ^ i - 1) _ (by omega) (by omega)
  have hle : (2 : Nat) ^ i ≤ 2 ^ 64 := Nat.pow_le_pow_right (by omega) hi
  rw [hw, band x (2 ^ i - 1) _ _ h (by omega) rfl rfl, Nat.and_two_pow_sub_one_eq_mod]
theorem mask_div (x a i : Nat) (h : x / 2 ^ a < 18446744073709551616) (hi : i ≤ 64) :
    bits BinOp.and IntKind.u64 ((x : Int) / 2 ^ a) (IntKind.u64.wrap (IntKind.u64.wrap (2 ^ i) - 1)) = ((x / 2 ^ a % 2 ^ i : Nat) : Int) := by
  rw [← mask_and (x / 2 ^ a) i h hi]
  simp
theorem mod_lt64 (x n : Nat) (h : x < 18446744073709551616) : x % n < 18446744073709551616 := Nat.lt_of_le_of_lt (Nat.mod_le _ _) h
theorem div_lt64 (x n : Nat) (h : x < 18446744073709551616) : x / n < 18446744073709551616 := Nat.lt_of_le_of_lt (Nat.div_le_self _ _) h

end Go.Proofs.YteeeikninigeoaaDoor


/- The walk of GamLong. -/
import Derived.Test.YtjofajpcchncpaaGam
namespace Go.Proofs.Ytjofajpcchncpaa
set_option linter.unusedVariables false
open Go.RowKit

/-- What the law says of the two lengths. -/
def longB (m : Nat) : Bool :=
  let x := 2 * Lib.bitLen m - 1
  let y := 2 * Lib.bitLen (Lib.bitLen m) - 1 + (Lib.bitLen m - 1)
  decide (1 ≤ x) && x % 2 == 1 && decide (y ≤ x + 1) && (decide (m < 16) || decide (y ≤ x)) && (decide (m < 32) || decide (y < x))
theorem len_len : ∀ b, b ≤ 21 → 5 ≤ b → Lib.bitLen b ≤ b - 1 - 1 := by decide
theorem len_len2 : ∀ b, b ≤ 21 → 1 ≤ b → 2 * Lib.bitLen b - 1 + (b - 1) ≤ 2 * b - 1 + 1 ∧ (5 ≤ b → 2 * Lib.bitLen b - 1 + (b - 1) ≤ 2 * b - 1) ∧ (6 ≤ b → 2 * Lib.bitLen b - 1 + (b - 1) < 2 * b - 1) := by decide
theorem bitLen_ge (m k : Nat) (h : 2 ^ k ≤ m) (h2 : m < 2 ^ 64) : k + 1 ≤ Lib.bitLen m := by
  have h3 := bitLen_lt m h2
  have h4 : 2 ^ k < 2 ^ Lib.bitLen m := Nat.lt_of_le_of_lt h h3
  have := (Nat.pow_lt_pow_iff_right (show 1 < 2 by omega)).1 h4
  omega

set_option maxHeartbeats 1000000 in
theorem walk_GamLong (a0 : Int) (w : World) (w0 : (Lit.int .i64 a0).wf = true) :
    Calls Try.prog 8 #[.int .i64 a0] w fun e w' => e = .returned (.bool true) ∧ Below w.heap.size w w' := by
  obtain ⟨b1, b2⟩ := wf_bd w0
  have hpb := pick_bd a0 1048576 (by omega)
  obtain ⟨p, hp⟩ : ∃ q : Nat, pick a0 1048576 = q := ⟨_, (Int.toNat_of_nonneg hpb.1).symm⟩
  obtain ⟨m, hm⟩ : ∃ m, m = p + 1 := ⟨_, rfl⟩
  have hm1 : 1 ≤ m := by omega
  have hm2 : m ≤ 1048576 := by omega
  have HP := Kp.mk (show (1 : Int) + pick a0 1048576 = (m : Int) by omega)
  have HP2 := Kp.mk hp
  have HM := Kp.mk hm
  have hb1 := Lib.bitLen_le m 21 (by omega) (by omega)
  have hb0 := bitLen_pos m (by omega) (by omega)
  have hl1 : (codeL 1 m).length = 2 * Lib.bitLen m - 1 := by
    unfold codeL; rw [if_neg (by omega)]; exact gamL_length m (by omega) (by omega)
  have hl2 : (codeL 2 m).length = 2 * Lib.bitLen (Lib.bitLen m) - 1 + (Lib.bitLen m - 1) := by
    unfold codeL; rw [if_pos rfl]; exact delL_length m (by omega) (by omega)
  have hll := len_len2 _ hb1 hb0
  have h16 : 16 ≤ m → 5 ≤ Lib.bitLen m := fun h => bitLen_ge m 4 (by omega) (by omega)
  have h32 : 32 ≤ m → 6 ≤ Lib.bitLen m := fun h => bitLen_ge m 5 (by omega) (by omega)
  obtain ⟨x, hx⟩ : ∃ x, (codeL 1 m).length = x := ⟨_, rfl⟩
  obtain ⟨y, hy⟩ : ∃ y, (codeL 2 m).length = y := ⟨_, rfl⟩
  have g1 : 1 ≤ x := by omega
  have g2 : x % 2 = 1 := by omega
  have g3 : y ≤ x + 1 := by omega
  have g4 : ¬ m < 16 → y ≤ x := by omega
  have g5 : ¬ m < 32 → y < x := by omega
  have g6 : x ≤ 41 := by omega
  have C1 := Kp.mk (fun W => gcost_any 1 m W (.inl rfl) (by omega) hm2)
  have C2 := Kp.mk (fun W => gcost_any 2 m W (.inr rfl) (by omega) hm2)
  rw [hx] at C1
  rw [hy] at C2
  have g7 : ((x : Int) % 2 == 1) = true := beq_iff_eq.2 (by omega)
  clear hl1 hl2 hll h16 h32 hx hy hb1 hb0 hpb hp hm w0
  go_enter Try.func8, Try.ntmps8
  go_wp2_with fail
  refine (picked_any a0 1048576 _ (by omega) (by omega) b1 b2).mono ?_
  rintro e w' ⟨rfl, rfl⟩
  rw [HP2.out]
  have e1 : (1 : Int) + (p : Int) = (m : Int) := by have := HM.out; omega
  have hp9 : p ≤ 1048576 := by have := HM.out; omega
  go_wp2_with fail
  refine (C1.out _).mono ?_
  rintro e wa ⟨rfl, hb1⟩
  go_wp2_with fail
  refine (C2.out _).mono ?_
  rintro e wb ⟨rfl, hb2⟩
  have HB := Kp.mk (below_step hb1 hb2)
  clear hb1 hb2 C1 C2 e1
  by_cases h16 : m < 16
  · by_cases h32 : m < 32
    · go_wp2
      go_ret
      exact ⟨rfl, HB.out⟩
    · omega
  · have q4 := g4 h16
    by_cases h32 : m < 32
    · go_wp2
      go_ret
      exact ⟨rfl, HB.out⟩
    · have q5 := g5 h32
      go_wp2
      go_ret
      exact ⟨rfl, HB.out⟩

end Go.Proofs.Ytjofajpcchncpaa

/- Package pack: a number of so many bits, read. -/
import Derived.Test.YtmoicghgdcbflaaPack
namespace Go.Proofs.Ytmoicghgdcbflaa
set_option linter.unusedVariables false
open Go.RowKit

def wordsN (n wd : Nat) : Nat := (n * wd + 63) / 64
theorem words_any (n wd : Nat) (w : World) (hn : n ≤ 1000) (hw : wd ≤ 62) :
    Calls Try.prog 56 #[.int .i64 n, .int .i64 wd] w (fun e w' => e = .returned (.int .i64 (wordsN n wd : Nat)) ∧ w' = w) := by
  have h1 : n * wd ≤ 1000 * 62 := Nat.mul_le_mul hn hw
  have h2 : (n : Int) * wd = ((n * wd : Nat) : Int) := by push_cast; rfl
  unfold wordsN
  have h3 : IntKind.i64.wrap ((n : Int) * wd) = ((n * wd : Nat) : Int) := by rw [h2]; exact IntWalk.i64_in _ (by omega)
  generalize n * wd = p at *
  go_enter Try.func56, Try.ntmps56
  go_wp2
  go_ret
  refine ⟨?_, rfl⟩
  rw [show ((p : Int) + 64 - 1) / 64 = (((p + 63) / 64 : Nat) : Int) by omega]
  rfl

theorem mask_low (y wd : Nat) (hy : y < 18446744073709551616) (hw : wd ≤ 62) : wrap64 (bits .and .u64 (y : Int) (IntKind.u64.wrap (IntKind.u64.wrap (2 ^ wd) - 1))) = ((y % 2 ^ wd : Nat) : Int) := by
  have h1 : 2 ^ wd ≤ 2 ^ 62 := Nat.pow_le_pow_right (by omega) hw
  have h0 : 0 < 2 ^ wd := Nat.pow_pos (by omega)
  have e : (2 : Int) ^ wd = ((2 ^ wd : Nat) : Int) := by push_cast; rfl
  have h2 : IntKind.u64.wrap (IntKind.u64.wrap (2 ^ wd) - 1) = ((2 ^ wd - 1 : Nat) : Int) := by
    rw [e]
    generalize 2 ^ wd = z at *
    rw [IntWalk.u64_in z (by omega), IntWalk.u64_in _ (by omega)]
    omega
  rw [h2, u64_and_nat _ _ hy (by omega), Nat.and_two_pow_sub_one_eq_mod]
  have h3 : y % 2 ^ wd < 2 ^ wd := Nat.mod_lt _ h0
  exact IntWalk.wrap64_in _ (by omega)

set_option maxHeartbeats 1000000 in
theorem get_any (g m cap N at' wd : Nat) (w : World) (hC : ∀ j, j < m → w.cell? ⟨g, j, none⟩ = some (.int .u64 (wrd N j))) (hw : wd ≤ 62) (hm : m ≤ 1000) (hfit : at' + wd ≤ 64 * m) :
    Calls Try.prog 58 #[.slice (some ⟨g, 0, none⟩) m cap, .int .i64 at', .int .i64 wd] w (fun e w' => e = .returned (.int .i64 (N / 2 ^ at' % 2 ^ wd : Nat)) ∧ w' = w) := by
  by_cases hw0 : wd = 0
  · subst hw0
    rw [Nat.pow_zero, Nat.mod_one]
    clear hC hfit
    go_enter Try.func58, Try.ntmps58
    go_wp2
    go_ret
    exact ⟨rfl, rfl⟩
  · have hg := Kp.mk (get_word N at' wd hw)
    obtain ⟨q, hq⟩ : ∃ q, q = at' / 64 := ⟨_, rfl⟩
    obtain ⟨r, hr⟩ : ∃ r, r = at' % 64 := ⟨_, rfl⟩
    have hqm : q < m := by omega
    have hr64 : r < 64 := by omega
    have c1 := hC q hqm
    have hq' : (at' : Int) / 64 = (q : Int) := by omega
    have hr' : (at' : Int) % 64 = (r : Int) := by omega
    have hne : ((wd : Int) == 0) = false := beq_eq_false_iff_ne.2 (by omega)
    have hx : wrd N q < 18446744073709551616 := wrd_lt N q
    have hatm : at' < 64 * m := by omega
    by_cases hu : r + wd > 64
    · have hq1 : q + 1 < m := by omega
      have c2 := hC (q + 1) hq1
      have HQ := Kp.mk hq
      have HR := Kp.mk hr
      clear hC hfit hq hr
      go_enter Try.func58, Try.ntmps58
      go_wp2
      go_ret
      refine ⟨?_, rfl⟩
      have e : (wrd N q : Int) / 2 ^ r = ((wrd N q / 2 ^ r : Nat) : Int) := by push_cast; rfl
      rw [hg.out, ← HQ.out, ← HR.out, if_pos hu, e, wrap_shl, u64_or_nat _ _ (Nat.lt_of_le_of_lt (Nat.div_le_self _ _) hx) (Nat.mod_lt _ (by decide)), mask_low _ _ (Nat.or_lt_two_pow (n := 64) (Nat.lt_of_le_of_lt (Nat.div_le_self _ _) hx) (Nat.mod_lt _ (by decide))) hw]
      rfl
    · have HQ := Kp.mk hq
      have HR := Kp.mk hr
      clear hC hfit hq hr
      go_enter Try.func58, Try.ntmps58
      go_wp2
      go_ret
      refine ⟨?_, rfl⟩
      have e : (wrd N q : Int) / 2 ^ r = ((wrd N q / 2 ^ r : Nat) : Int) := by push_cast; rfl
      rw [hg.out, ← HQ.out, ← HR.out, if_neg hu, e, mask_low _ _ (Nat.lt_of_le_of_lt (Nat.div_le_self _ _) hx) hw]
      rfl

end Go.Proofs.Ytmoicghgdcbflaa

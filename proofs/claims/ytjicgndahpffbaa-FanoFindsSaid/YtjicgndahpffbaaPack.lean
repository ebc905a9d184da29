/- Package pack: numbers of so many bits. -/
import Derived.Test.YtjicgndahpffbaaWord
namespace Go.Proofs.Ytjicgndahpffbaa
set_option linter.unusedVariables false
open Go.RowKit

set_option maxHeartbeats 1000000 in
theorem put_any (B g cap m N n at' : Nat) (w : World) (hO : w.ownsRow B 154 1 (.slice (some ⟨g, 0, none⟩) m cap) m (wds (wordsOf N m))) (hN : N < 2 ^ at') (hn : n < 4611686018427387904) (hm : m ≤ 1000) (hat : at' < 64 * m) (hfit : N + n * 2 ^ at' < 2 ^ (64 * m)) :
    Calls Try.prog 91 #[.slice (some ⟨g, 0, none⟩) m cap, .int .i64 at', .int .i64 n] w (fun e w' => e = .returned (.tuple #[]) ∧ w'.ownsRow B 154 1 (.slice (some ⟨g, 0, none⟩) m cap) m (wds (wordsOf (N + n * 2 ^ at') m)) ∧ w.grownBy w' (some g)) := by
  by_cases hn0 : n = 0
  · subst hn0
    have HO := Kp.mk hO
    clear hO hN hfit
    go_enter Try.func91, Try.ntmps91
    go_wp2
    refine bodyPost_ret (results_none rfl _ _ _) rfl ⟨rfl, ?_, grown_refl _ _⟩
    rw [Nat.zero_mul, Nat.add_zero]
    exact HO.out
  · obtain ⟨q, hq⟩ : ∃ q, q = at' / 64 := ⟨_, rfl⟩
    obtain ⟨r, hr⟩ : ∃ r, r = at' % 64 := ⟨_, rfl⟩
    have hqm : q < m := by omega
    have hr64 : r < 64 := by omega
    have c1 := wds_cell hO hqm
    have f1 : w.frozen? ⟨g, q, none⟩ = false := hO.frozenAt q
    have hq' : (at' : Int) / 64 = (q : Int) := by omega
    have hr' : (at' : Int) % 64 = (r : Int) := by omega
    have hfar : n * 2 ^ at' < 2 ^ (64 * m) := Nat.lt_of_le_of_lt (Nat.le_add_left _ _) hfit
    have hfits := up_fits n at' m hfar (by omega)
    have hp := Kp.mk (put_words N n at' m hN (by omega) (by omega) (fun h => .inl (hfits h)))
    have hne : ((n : Int) == 0) = false := beq_eq_false_iff_ne.2 (by omega)
    have hx : wrd N q < 18446744073709551616 := wrd_lt N q
    have HO := Kp.mk hO
    have HQ := Kp.mk hq
    have HR := Kp.mk hr
    rw [← hr, ← hq] at hfits
    by_cases hu : 0 < r ∧ 0 < n / 2 ^ (64 - r)
    · obtain ⟨hu1, hu2⟩ := hu
      have hq1 : q + 1 < m := hfits hu2
      have c2 := wds_cell hO hq1
      have f2 : w.frozen? ⟨g, q + 1, none⟩ = false := hO.frozenAt (q + 1)
      have hdv : (n : Int) / 2 ^ (64 - r) = ((n / 2 ^ (64 - r) : Nat) : Int) := by push_cast; rfl
      have hu3 : ¬ (n : Int) / 2 ^ (64 - r) ≤ 0 := by rw [hdv]; omega
      have hu4 : (0 : Int) < (n : Int) / 2 ^ (64 - r) := by omega
      have HD := Kp.mk hdv
      generalize hX : wrd N q = x at *
      have HX := Kp.mk hX
      clear hX
      clear hO hN hfit hq hr hfar hfits hdv
      go_enter Try.func91, Try.ntmps91
      go_wp2
      go_region
      go_wp2
      refine bodyPost_end (results_none rfl _ _ _) rfl ⟨rfl, ?_, grown_drew (grown_trans (grown_set _ _ _ _) (grown_set _ _ _ _))⟩
      rw [hp.out, ← HQ.out, ← HR.out, if_pos ⟨hu1, hu2⟩, HX.out]
      have h1 := (HO.out.stored q (.int .u64 ((x ||| n * 2 ^ r % 2 ^ 64 : Nat) : Int))).1
      have h2 := (h1.stored (q + 1) (.int .u64 ((wrd N (q + 1) ||| n / 2 ^ (64 - r) : Nat) : Int))).1
      rw [wds_set, wds_set, ← or_shl x n r hx, ← u64_or_nat _ _ (wrd_lt N (q + 1)) (Nat.lt_of_le_of_lt (Nat.div_le_self _ _) (by omega)), ← HD.out] at h2
      exact h2.drew
    · have hu3 : 0 < r → (n : Int) / 2 ^ (64 - r) ≤ 0 := by
        intro h
        have hdv : (n : Int) / 2 ^ (64 - r) = ((n / 2 ^ (64 - r) : Nat) : Int) := by push_cast; rfl
        rw [hdv]
        have := fun h' => hu ⟨h, h'⟩
        omega
      have HU := Kp.mk hu
      generalize hX : wrd N q = x at *
      have HX := Kp.mk hX
      clear hX
      clear hO hN hfit hq hr hfar hfits hu
      by_cases hr0 : 0 < r
      · replace hu3 := hu3 hr0
        have hu4 : ¬ (0 : Int) < (n : Int) / 2 ^ (64 - r) := by omega
        go_enter Try.func91, Try.ntmps91
        go_wp2
        go_region
        go_wp2
        refine bodyPost_end (results_none rfl _ _ _) rfl ⟨rfl, ?_, grown_drew (grown_set _ _ _ _)⟩
        rw [hp.out, ← HQ.out, ← HR.out, if_neg HU.out, HX.out]
        have h1 := (HO.out.stored q (.int .u64 ((x ||| n * 2 ^ r % 2 ^ 64 : Nat) : Int))).1
        rw [wds_set, ← or_shl x n r hx] at h1
        exact h1.drew
      · have hr0' : r = 0 := by omega
        clear hu3
        go_enter Try.func91, Try.ntmps91
        go_wp2
        go_region
        go_wp2
        refine bodyPost_end (results_none rfl _ _ _) rfl ⟨rfl, ?_, grown_drew (grown_set _ _ _ _)⟩
        rw [hp.out, ← HQ.out, ← HR.out, if_neg HU.out, HX.out]
        have h1 := (HO.out.stored q (.int .u64 ((x ||| n : Nat) : Int))).1
        have e : n * 2 ^ r % 2 ^ 64 = n := by rw [hr0', Nat.pow_zero, Nat.mul_one]; exact Nat.mod_eq_of_lt (by omega)
        rw [wds_set, ← u64_or_nat x n hx (by omega)] at h1
        rw [e]
        exact h1.drew

end Go.Proofs.Ytjicgndahpffbaa

/- The walk of TurnTwice. -/
import Derived.Test.YtmoicghgdcbflaaPopL
import Derived.Test.YtmoicghgdcbflaaTurnP
namespace Go.Proofs.Ytmoicghgdcbflaa
set_option linter.unusedVariables false
open Go.RowKit

theorem sl_step (h n s M x : Nat) (hs : s = 2 ^ h) (hM : M = mk h n) (hx : x < 18446744073709551616) (hMl : M < 18446744073709551616) (hfit : (h + h) * n ≤ 64) :
    ∃ p q q2 y : Nat, bits BinOp.and IntKind.u64 ((x : Int) / (s : Int)) (M : Int) = (p : Int) ∧ bits BinOp.and IntKind.u64 (x : Int) (M : Int) = (q : Int) ∧ IntKind.u64.wrap ((q : Int) * (s : Int)) = (q2 : Int) ∧ bits BinOp.or IntKind.u64 (p : Int) (q2 : Int) = (y : Int) ∧ y = sl h n x ∧ y < 18446744073709551616 := by
  have he := sl_eq h n x
  rw [← hs, ← hM] at he
  have hlt := sl_lt h n x
  have h64 : 2 ^ ((h + h) * n) ≤ 2 ^ 64 := Nat.pow_le_pow_right (by omega) hfit
  rw [← he] at hlt
  have h1 : (x &&& M) * s ≤ (x / s &&& M) ||| ((x &&& M) * s) := Nat.right_le_or
  have h2 : (x / s &&& M) ≤ M := Nat.and_le_right
  refine ⟨x / s &&& M, x &&& M, (x &&& M) * s, (x / s &&& M) ||| ((x &&& M) * s), ?_, u64_and_nat x M hx hMl, ?_, u64_or_nat _ _ (by omega) (by omega), he, by omega⟩
  · rw [← Int.natCast_ediv]
    exact u64_and_nat _ _ (div_lt64 _ _ hx) hMl
  · exact uwrap _ _ (by rw [Int.natCast_mul]) (by omega)

theorem sl_last (x : Nat) (hx : x < 18446744073709551616) :
    ∃ q2 y : Nat, IntKind.u64.wrap ((x : Int) * 4294967296) = (q2 : Int) ∧ bits BinOp.or IntKind.u64 ((x : Int) / 4294967296) (q2 : Int) = (y : Int) ∧ y = sl 32 1 x ∧ y < 18446744073709551616 := by
  have he := sl_eq 32 1 x
  have hlt := sl_lt 32 1 x
  have hM : mk 32 1 = 2 ^ 32 - 1 := by simp [mk]
  rw [hM, Nat.and_two_pow_sub_one_eq_mod, Nat.and_two_pow_sub_one_eq_mod, Nat.mod_eq_of_lt (by omega)] at he
  rw [← he] at hlt
  refine ⟨x % 2 ^ 32 * 2 ^ 32, (x / 2 ^ 32) ||| (x % 2 ^ 32 * 2 ^ 32), ?_, ?_, he, by omega⟩
  · rw [IntKind.wrap_u64]; omega
  · rw [show (x : Int) / 4294967296 = ((x / 2 ^ 32 : Nat) : Int) by simp]
    exact u64_or_nat _ _ (by omega) (by omega)

set_option maxHeartbeats 400000 in
theorem rbytes_any (x : Nat) (w : World) (h : x < 18446744073709551616) :
    Calls Try.prog 60 #[.int .u64 x] w fun e w' => ∃ y4 y5 y6 : Nat, e = .returned (.int .u64 y6) ∧ y4 = sl 8 4 x ∧ y5 = sl 16 2 y4 ∧ y6 = sl 32 1 y5 ∧ y6 < 18446744073709551616 ∧ w = w' := by
  obtain ⟨p, q, q2, y4, a1, a2, a3, a4, hy4, l4⟩ := sl_step 8 4 256 71777214294589695 x (by decide) (by decide) h (by omega) (by omega)
  obtain ⟨r, s, s2, y5, b1, b2, b3, b4, hy5, l5⟩ := sl_step 16 2 65536 281470681808895 y4 (by decide) (by decide) l4 (by omega) (by omega)
  obtain ⟨t2, y6, c1, c2, hy6, l6⟩ := sl_last y5 l5
  have H4 := Kp.mk hy4
  have H5 := Kp.mk hy5
  have H6 := Kp.mk hy6
  have L6 := Kp.mk l6
  have a1' : bits BinOp.and IntKind.u64 ((x : Int) / 256) 71777214294589695 = (p : Int) := a1
  have a2' : bits BinOp.and IntKind.u64 (x : Int) 71777214294589695 = (q : Int) := a2
  have a3' : IntKind.u64.wrap ((q : Int) * 256) = (q2 : Int) := a3
  have b1' : bits BinOp.and IntKind.u64 ((y4 : Int) / 65536) 281470681808895 = (r : Int) := b1
  have b2' : bits BinOp.and IntKind.u64 (y4 : Int) 281470681808895 = (s : Int) := b2
  have b3' : IntKind.u64.wrap ((s : Int) * 65536) = (s2 : Int) := b3
  clear hy4 hy5 hy6 l6 l4 l5 h a1 a2 a3 b1 b2 b3
  go_enter Try.func60, Try.ntmps60
  go_wp2
  go_ret
  exact ⟨y4, y5, y6, rfl, H4.out, H5.out, H6.out, L6.out, rfl⟩

set_option maxHeartbeats 400000 in
theorem rev_any (x : Nat) (w : World) (h : x < 18446744073709551616) :
    Calls Try.prog 50 #[.int .u64 x] w fun e w' => e = .returned (.int .u64 (revn 64 x)) ∧ w = w' := by
  obtain ⟨p, q, q2, y1, a1, a2, a3, a4, hy1, l1⟩ := sl_step 1 32 2 6148914691236517205 x (by decide) (by decide) h (by omega) (by omega)
  obtain ⟨r, s, s2, y2, b1, b2, b3, b4, hy2, l2⟩ := sl_step 2 16 4 3689348814741910323 y1 (by decide) (by decide) l1 (by omega) (by omega)
  obtain ⟨t, u, u2, y3, c1, c2, c3, c4, hy3, l3⟩ := sl_step 4 8 16 1085102592571150095 y2 (by decide) (by decide) l2 (by omega) (by omega)
  have H1 := Kp.mk hy1
  have H2 := Kp.mk hy2
  have H3 := Kp.mk hy3
  have L3 := Kp.mk l3
  have HX := Kp.mk h
  have a1' : bits BinOp.and IntKind.u64 ((x : Int) / 2) 6148914691236517205 = (p : Int) := a1
  have a2' : bits BinOp.and IntKind.u64 (x : Int) 6148914691236517205 = (q : Int) := a2
  have a3' : IntKind.u64.wrap ((q : Int) * 2) = (q2 : Int) := a3
  have b1' : bits BinOp.and IntKind.u64 ((y1 : Int) / 4) 3689348814741910323 = (r : Int) := b1
  have b2' : bits BinOp.and IntKind.u64 (y1 : Int) 3689348814741910323 = (s : Int) := b2
  have b3' : IntKind.u64.wrap ((s : Int) * 4) = (s2 : Int) := b3
  have c1' : bits BinOp.and IntKind.u64 ((y2 : Int) / 16) 1085102592571150095 = (t : Int) := c1
  have c2' : bits BinOp.and IntKind.u64 (y2 : Int) 1085102592571150095 = (u : Int) := c2
  have c3' : IntKind.u64.wrap ((u : Int) * 16) = (u2 : Int) := c3
  clear hy1 hy2 hy3 l1 l2 l3 h a1 a2 a3 b1 b2 b3 c1 c2 c3
  go_enter Try.func50, Try.ntmps50
  go_wp2_with fail
  refine (rbytes_any y3 _ L3.out).mono ?_
  rintro e w' ⟨y4, y5, y6, rfl, h4, h5, h6, l6, rfl⟩
  have H6 := Kp.mk (turn_steps x y1 y2 y3 y4 y5 y6 HX.out H1.out H2.out H3.out h4 h5 h6)
  clear h4 h5 h6
  go_wp2
  go_ret
  refine ⟨?_, rfl⟩
  rw [← H6.out]
  rfl

theorem turn_any (x : Nat) (w : World) (h : x < 18446744073709551616) :
    Calls Try.prog 33 #[.int .u64 x] w fun e w' => e = .returned (.int .u64 (revn 64 x)) ∧ w = w' := by
  have HX := Kp.mk h
  clear h
  go_enter Try.func33, Try.ntmps33
  go_wp2_with fail
  refine (rev_any x _ HX.out).mono ?_
  rintro e w' ⟨rfl, rfl⟩
  go_wp2
  go_ret
  exact ⟨rfl, rfl⟩

set_option maxHeartbeats 1000000 in
theorem walk_TurnTwice (a0 : Int) (a1 : Int) (w : World) (w0 : (Lit.int .u64 a0).wf = true) (w1 : (Lit.int .i64 a1).wf = true) :
    Calls Try.prog 11 #[.int .u64 a0, .int .i64 a1] w fun e w' => e = .returned (.bool true) ∧ Below w.heap.size w w' := by
  obtain ⟨x, rfl, hx⟩ := wf_u64 w0
  obtain ⟨b1, b2⟩ := wf_bd w1
  have hpb := pick_bd a1 65 (by omega)
  obtain ⟨k, hk⟩ : ∃ q : Nat, pick a1 65 = q := ⟨_, (Int.toNat_of_nonneg hpb.1).symm⟩
  have HK := Kp.mk hk
  have hk65 : k ≤ 64 := by omega
  have HX := Kp.mk hx
  clear hpb hk w0 w1 hx
  go_enter Try.func11, Try.ntmps11
  go_wp2_with fail
  refine (picked_any a1 65 _ (by omega) (by omega) b1 b2).mono ?_
  rintro e w' ⟨rfl, rfl⟩
  rw [HK.out]
  go_wp2_with fail
  refine (turn_any x _ HX.out).mono ?_
  rintro e w' ⟨rfl, rfl⟩
  have hr := Kp.mk (revn_revn 64 x HX.out)
  have lr : Kp (revn 64 x < 18446744073709551616) := ⟨revn_lt 64 x⟩
  have ht := pcn_turned k x hk65
  generalize revn 64 x = t at *
  have g1 := pcn_le 64 x
  go_wp2_with fail
  refine (turn_any t _ lr.out).mono ?_
  rintro e w' ⟨rfl, rfl⟩
  rw [hr.out]
  have e0 := beq_tt (show (x : Int) = x from rfl)
  go_wp2_with fail
  refine (turn_any 1 _ (by omega)).mono ?_
  rintro e w' ⟨rfl, rfl⟩
  rw [revn64_one]
  go_wp2_with fail
  refine (popRank_any t k _ lr.out hk65).mono ?_
  rintro e w' ⟨rfl, rfl⟩
  generalize hA : pcn k t = A at *
  generalize hC : pcn 64 x = C at *
  generalize hD : pcn (64 - k) x = D at *
  have HC := Kp.mk hC
  have HD := Kp.mk hD
  clear hA hC hD
  have hDC : D ≤ C := by omega
  have e1 := beq_tt (show (A : Int) = C - D by omega)
  go_wp2_with fail
  refine (ones_any x _ HX.out).mono ?_
  rintro e w' ⟨rfl, rfl⟩
  rw [HC.out]
  go_wp2_with fail
  have hp := popRank_any x (64 - k) w HX.out (by omega)
  rw [HD.out, show ((64 - k : Nat) : Int) = 64 - (k : Int) by omega] at hp
  refine hp.mono ?_
  rintro e w' ⟨rfl, rfl⟩
  clear hp ht
  go_wp2
  go_ret
  exact ⟨rfl, Below.refl _ _⟩

end Go.Proofs.Ytmoicghgdcbflaa

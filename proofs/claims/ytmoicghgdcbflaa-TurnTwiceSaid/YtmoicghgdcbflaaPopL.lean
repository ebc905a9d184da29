/- The walks of RankSplit and SelectRank. -/
import Derived.Test.YtmoicghgdcbflaaPop
namespace Go.Proofs.Ytmoicghgdcbflaa
set_option linter.unusedVariables false
open Go.RowKit

theorem wf_u64 {x : Int} (h : (Lit.int .u64 x).wf = true) : ∃ n : Nat, x = n ∧ n < 18446744073709551616 := by
  have h2 : 0 ≤ x ∧ x ≤ 18446744073709551615 := by
    simpa [Lit.wf, IntKind.min, IntKind.max, IntKind.signed, IntKind.bits] using h
  exact ⟨x.toNat, by omega, by omega⟩

theorem unot (x : Nat) (h : x < 18446744073709551616) : bits BinOp.xor IntKind.u64 IntKind.u64.max (x : Int) = ((18446744073709551615 - x : Nat) : Int) := by
  rw [← xor_ones x h]
  exact u64_xor_nat 18446744073709551615 x (by omega) h
theorem beq_tt {a b : Int} (h : a = b) : (a == b) = true := by simp [h]

set_option maxHeartbeats 1000000 in
theorem walk_RankSplit (a0 : Int) (a1 : Int) (a2 : Int) (w : World) (w0 : (Lit.int .u64 a0).wf = true) (w1 : (Lit.int .u64 a1).wf = true) (w2 : (Lit.int .i64 a2).wf = true) :
    Calls Try.prog 6 #[.int .u64 a0, .int .u64 a1, .int .i64 a2] w fun e w' => e = .returned (.bool true) ∧ Below w.heap.size w w' := by
  obtain ⟨x, rfl, hx⟩ := wf_u64 w0
  obtain ⟨y, rfl, hy⟩ := wf_u64 w1
  obtain ⟨b1, b2⟩ := wf_bd w2
  have hpb := pick_bd a2 65 (by omega)
  obtain ⟨k, hk⟩ : ∃ q : Nat, pick a2 65 = q := ⟨_, (Int.toNat_of_nonneg hpb.1).symm⟩
  have HK := Kp.mk hk
  have hk65 : k ≤ 64 := by omega
  clear hpb hk w0 w1 w2
  have HX := Lib.hid hx
  have HY := Lib.hid hy
  clear hx hy
  go_enter Try.func6, Try.ntmps6
  go_wp2_with fail
  refine (picked_any a2 65 _ (by omega) (by omega) b1 b2).mono ?_
  rintro e w' ⟨rfl, rfl⟩
  rw [HK.out]
  go_wp2_with fail
  refine (ones_any 5 _ (by omega)).mono ?_
  rintro e w' ⟨rfl, rfl⟩
  rw [pcn_five]
  go_wp2_with fail
  refine (popRank_any x k _ HX.out hk65).mono ?_
  rintro e w' ⟨rfl, rfl⟩
  go_wp2_with fail
  rw [unot x HX.out]
  refine (popRank_any (18446744073709551615 - x) k _ (by omega) hk65).mono ?_
  rintro e w' ⟨rfl, rfl⟩
  have h1 := beq_tt (show ((pcn k x : Int) + (pcn k (18446744073709551615 - x) : Nat)) = k by have h := pcn_compl k 64 x hk65 HX.out; rw [show (2 : Nat) ^ 64 - 1 - x = 18446744073709551615 - x from rfl] at h; omega)
  have g1 := pcn_le k x
  have g2 := pcn_le k (18446744073709551615 - x)
  generalize pcn k x = p1 at *
  generalize pcn k (18446744073709551615 - x) = p2 at *
  go_wp2_with fail
  clear h1 g1 g2
  refine (popRank_any x 64 _ HX.out (by omega)).mono ?_
  rintro e w' ⟨rfl, rfl⟩
  go_wp2_with fail
  refine (ones_any x _ HX.out).mono ?_
  rintro e w' ⟨rfl, rfl⟩
  have g1 := pcn_le 64 x
  have g2 := pcn_le 64 y
  have g3 := pcn_le 64 (x ||| y)
  have g4 := pcn_le 64 (x &&& y)
  have g5 := pcn_le 64 (x ^^^ y)
  have e1 := pcn_or_and 64 x y
  have e2 := pcn_xor 64 x y
  have ho := Kp.mk (u64_or_nat x y HX.out HY.out)
  have ha := Kp.mk (u64_and_nat x y HX.out HY.out)
  have hxr := Kp.mk (u64_xor_nat x y HX.out HY.out)
  have lo : Kp (x ||| y < 18446744073709551616) := ⟨Nat.or_lt_two_pow (n := 64) HX.out HY.out⟩
  have la : Kp (x &&& y < 18446744073709551616) := ⟨Nat.and_lt_two_pow (n := 64) _ HY.out⟩
  have lx : Kp (x ^^^ y < 18446744073709551616) := ⟨Nat.xor_lt_two_pow (n := 64) HX.out HY.out⟩
  generalize hA : pcn 64 x = A at *
  generalize hB : pcn 64 y = B at *
  generalize hO : pcn 64 (x ||| y) = O at *
  generalize hN : pcn 64 (x &&& y) = N at *
  generalize hR : pcn 64 (x ^^^ y) = R at *
  have h1 := beq_tt (show (A : Int) = A from rfl)
  have h2 := beq_tt (show (A : Int) + B = O + N by omega)
  have h3 := beq_tt (show (R : Int) = O - N by omega)
  have HA := Kp.mk hA
  have HB := Kp.mk hB
  have HO := Kp.mk hO
  have HN := Kp.mk hN
  have HR := Kp.mk hR
  clear hA hB hO hN hR e1 e2
  go_wp2_with fail
  refine (ones_any x _ HX.out).mono ?_
  rintro e w' ⟨rfl, rfl⟩
  rw [HA.out]
  go_wp2_with fail
  refine (ones_any y _ HY.out).mono ?_
  rintro e w' ⟨rfl, rfl⟩
  rw [HB.out]
  go_wp2_with fail
  rw [ho.out]
  refine (ones_any (x ||| y) _ lo.out).mono ?_
  rintro e w' ⟨rfl, rfl⟩
  rw [HO.out]
  go_wp2_with fail
  rw [ha.out]
  refine (ones_any (x &&& y) _ la.out).mono ?_
  rintro e w' ⟨rfl, rfl⟩
  rw [HN.out]
  go_wp2_with fail
  rw [hxr.out]
  refine (ones_any (x ^^^ y) _ lx.out).mono ?_
  rintro e w' ⟨rfl, rfl⟩
  rw [HR.out]
  go_wp2_with fail
  rw [ho.out]
  refine (ones_any (x ||| y) _ lo.out).mono ?_
  rintro e w' ⟨rfl, rfl⟩
  rw [HO.out]
  go_wp2_with fail
  rw [ha.out]
  refine (ones_any (x &&& y) _ la.out).mono ?_
  rintro e w' ⟨rfl, rfl⟩
  rw [HN.out]
  go_wp2
  go_ret
  exact ⟨rfl, Below.refl _ _⟩

set_option maxHeartbeats 1000000 in
theorem walk_SelectRank (a0 : Int) (a1 : Int) (w : World) (w0 : (Lit.int .u64 a0).wf = true) (w1 : (Lit.int .i64 a1).wf = true) :
    Calls Try.prog 13 #[.int .u64 a0, .int .i64 a1] w fun e w' => e = .returned (.bool true) ∧ Below w.heap.size w w' := by
  obtain ⟨x, rfl, hx⟩ := wf_u64 w0
  obtain ⟨b1, b2⟩ := wf_bd w1
  have HX := Lib.hid hx
  clear hx w0 w1
  have hle := pcn_le 64 x
  go_enter Try.func13, Try.ntmps13
  go_wp2_with fail
  refine (ones_any x _ HX.out).mono ?_
  rintro e w' ⟨rfl, rfl⟩
  have hsn := Kp.mk (select_none x (pcn 64 x) w HX.out (by omega) (by omega))
  have hz := Kp.mk (pcn_pos 64 x HX.out)
  have hsel := Kp.mk (fun K hK => select_any x K w HX.out hK)
  generalize pcn 64 x = t at *
  go_wp2_with fail
  refine (ones_any 5 _ (by omega)).mono ?_
  rintro e w' ⟨rfl, rfl⟩
  rw [pcn_five]
  go_wp2_with fail
  refine hsn.out.mono ?_
  rintro e w' ⟨rfl, rfl⟩
  clear hsn
  by_cases ht : t = 0
  · have hx0 := hz.out ht
    subst ht
    subst hx0
    go_wp2
    go_ret
    exact ⟨rfl, Below.refl _ _⟩
  · have ht2 : ((t : Int) == 0) = false := beq_eq_false_iff_ne.2 (by omega)
    have hpb := pick_bd a1 t (by omega)
    obtain ⟨j, hj⟩ : ∃ q : Nat, pick a1 t = q := ⟨_, (Int.toNat_of_nonneg hpb.1).symm⟩
    have HJ := Kp.mk hj
    have hjt : j < t := by omega
    clear hpb hj hz
    have ht0 : 0 < t := by omega
    clear ht
    go_wp2_with fail
    refine (picked_any a1 t _ (by omega) (by omega) b1 b2).mono ?_
    rintro e w' ⟨rfl, rfl⟩
    rw [HJ.out]
    go_wp2_with fail
    refine (hsel.out j hjt).mono ?_
    rintro e w1 ⟨i, rfl, hi, hpi, hbit, hD⟩
    have hb1 : bits BinOp.and IntKind.u64 ((x : Int) / 2 ^ i) 1 = 1 := by
      rw [show (x : Int) / 2 ^ i = ((x / 2 ^ i : Nat) : Int) by simp]
      rw [show (1 : Int) = ((1 : Nat) : Int) from rfl, u64_and_nat (x / 2 ^ i) 1 (div_lt64 _ _ HX.out) (by omega), Nat.and_one_is_mod, hbit]
    have hp1 : Kp (pcn (i + 1) x = j + 1) := ⟨by rw [pcn_add, pcn_one]; omega⟩
    have HPI := Kp.mk hpi
    clear hpi hbit hsel
    go_wp2_with fail
    refine (popRank_any x i _ HX.out (by omega)).mono ?_
    rintro e w' ⟨rfl, rfl⟩
    rw [HPI.out]
    go_wp2_with fail
    have hr := popRank_any x (i + 1) w1 HX.out (by omega)
    rw [hp1.out, show ((i + 1 : Nat) : Int) = (i : Int) + 1 from rfl] at hr
    refine hr.mono ?_
    rintro e w' ⟨rfl, rfl⟩
    have h1 := beq_tt (show (((j + 1 : Nat) : Int)) = (j : Int) + 1 from rfl)
    clear hr
    go_wp2
    go_ret
    exact ⟨rfl, hD.below _⟩

end Go.Proofs.Ytmoicghgdcbflaa

/- Package morton: codes of places; the walk of MortonTrue. -/
import Derived.Test.YtnieacfleabikaaMorP
import Derived.Test.YtnieacfleabikaaBit
namespace Go.Proofs.Ytnieacfleabikaa
set_option linter.unusedVariables false
open Go.RowKit

/-- A step of 'spread'. -/
theorem spread_step (g n s M x y : Nat) (hs : s = 2 ^ g) (hM : M = mk g (n + n)) (hMl : M < 9223372036854775808) (hs6 : s ≤ 65536) (hy : y = spr (g + g) n x) (hx : x ≤ 2097151) :
    ∃ z y' : Nat, y ≤ 4398046511104 ∧ bits BinOp.or IntKind.i64 (y : Int) ((y : Int) * (s : Int)) = (z : Int) ∧ bits BinOp.and IntKind.i64 (z : Int) (M : Int) = (y' : Int) ∧ y' = spr g (n + n) x := by
  have h1 := spr_sq (g + g) n x
  have h2 : x * x ≤ 2097151 * 2097151 := Nat.mul_le_mul hx hx
  have hyl : y ≤ 4398046511104 := by rw [hy]; omega
  have h3 : y * s ≤ 4398046511104 * 65536 := Nat.mul_le_mul hyl hs6
  have hst := spr_step g n x y hy
  rw [← hs, ← hM] at hst
  have hor : y ||| y * s < 2 ^ 63 := Nat.or_lt_two_pow (by omega) (by omega)
  refine ⟨y ||| y * s, (y ||| y * s) &&& M, hyl, ?_, i64_and_nat _ _ hor hMl, hst⟩
  rw [← Int.natCast_mul]
  exact i64_or_nat _ _ (by omega) (by omega)

set_option maxHeartbeats 1000000 in
theorem spread_any (x : Nat) (w : World) (hx : x ≤ 2097151) :
    Calls Try.prog 36 #[.int .i64 x] w fun e w' => e = .returned (.int .i64 (spr 1 32 x)) ∧ w = w' := by
  obtain ⟨z1, y1, l1, a1, b1, h1⟩ := spread_step 16 1 65536 281470681808895 x x (by decide) (by decide) (by omega) (by omega) (spr_whole 32 x (by omega)).symm hx
  obtain ⟨z2, y2, l2, a2, b2, h2⟩ := spread_step 8 2 256 71777214294589695 x y1 (by decide) (by decide) (by omega) (by omega) h1 hx
  obtain ⟨z3, y3, l3, a3, b3, h3⟩ := spread_step 4 4 16 1085102592571150095 x y2 (by decide) (by decide) (by omega) (by omega) h2 hx
  obtain ⟨z4, y4, l4, a4, b4, h4⟩ := spread_step 2 8 4 3689348814741910323 x y3 (by decide) (by decide) (by omega) (by omega) h3 hx
  obtain ⟨z5, y5, l5, a5, b5, h5⟩ := spread_step 1 16 2 6148914691236517205 x y4 (by decide) (by decide) (by omega) (by omega) h4 hx
  have H5 := Kp.mk h5
  clear h1 h2 h3 h4 h5
  have a1' : bits BinOp.or IntKind.i64 (x : Int) ((x : Int) * 65536) = (z1 : Int) := a1
  have a2' : bits BinOp.or IntKind.i64 (y1 : Int) ((y1 : Int) * 256) = (z2 : Int) := a2
  have a3' : bits BinOp.or IntKind.i64 (y2 : Int) ((y2 : Int) * 16) = (z3 : Int) := a3
  have a4' : bits BinOp.or IntKind.i64 (y3 : Int) ((y3 : Int) * 4) = (z4 : Int) := a4
  have a5' : bits BinOp.or IntKind.i64 (y4 : Int) ((y4 : Int) * 2) = (z5 : Int) := a5
  have b1' : bits BinOp.and IntKind.i64 (z1 : Int) 281470681808895 = (y1 : Int) := b1
  have b2' : bits BinOp.and IntKind.i64 (z2 : Int) 71777214294589695 = (y2 : Int) := b2
  have b3' : bits BinOp.and IntKind.i64 (z3 : Int) 1085102592571150095 = (y3 : Int) := b3
  have b4' : bits BinOp.and IntKind.i64 (z4 : Int) 3689348814741910323 = (y4 : Int) := b4
  have b5' : bits BinOp.and IntKind.i64 (z5 : Int) 6148914691236517205 = (y5 : Int) := b5
  clear a1 a2 a3 a4 a5 b1 b2 b3 b4 b5
  go_enter Try.func36, Try.ntmps36
  go_wp2
  go_ret
  refine ⟨ret_int ?_, rfl⟩
  rw [← H5.out]

/-- A step of 'gather'. -/
theorem fits_any (x : Nat) (w : World) (hx : x ≤ 1048576) :
    Calls Try.prog 35 #[.int .i64 x] w fun e w' => e = .returned (.bool true) ∧ w = w' := by
  go_enter Try.func35, Try.ntmps35
  go_wp2
  go_ret
  exact ⟨ret_bool (decide_eq_true (by omega)), rfl⟩

set_option maxHeartbeats 1000000 in
theorem code_any (x y : Nat) (w : World) (hx : x ≤ 1048576) (hy : y ≤ 1048576) :
    Calls Try.prog 18 #[.int .i64 x, .int .i64 y] w fun e w' => e = .returned (.tuple #[.int .i64 (cod x y), .int .i64 0]) ∧ w = w' := by
  have l1 := Nat.le_trans (spr_sq 1 32 x) (Nat.mul_le_mul hx hx)
  have l2 := Nat.le_trans (spr_sq 1 32 y) (Nat.mul_le_mul hy hy)
  have ho := i64_or_nat (spr 1 32 x) (spr 1 32 y * 2) (by omega) (by omega)
  have hcod : Kp (spr 1 32 x ||| spr 1 32 y * 2 = cod x y) := ⟨by rw [or_cod, cod_eq]⟩
  rw [hcod.out, Int.natCast_mul] at ho
  have ho' : bits BinOp.or IntKind.i64 (spr 1 32 x : Int) ((spr 1 32 y : Int) * 2) = (cod x y : Int) := ho
  clear ho
  generalize hA : spr 1 32 x = A at *
  generalize hB : spr 1 32 y = B at *
  generalize cod x y = C at *
  have HA := Kp.mk hA
  have HB := Kp.mk hB
  clear hA hB
  go_enter Try.func18, Try.ntmps18
  go_wp2_with fail
  refine (fits_any x _ hx).mono ?_
  rintro e w' ⟨rfl, rfl⟩
  go_wp2_with fail
  refine (fits_any y _ hy).mono ?_
  rintro e w' ⟨rfl, rfl⟩
  go_wp2_with fail
  refine (spread_any x _ (by omega)).mono ?_
  rintro e w' ⟨rfl, rfl⟩
  rw [HA.out]
  go_wp2_with fail
  refine (spread_any y _ (by omega)).mono ?_
  rintro e w' ⟨rfl, rfl⟩
  rw [HB.out]
  go_wp2
  go_ret2
  exact ⟨rfl, rfl⟩

end Go.Proofs.Ytnieacfleabikaa

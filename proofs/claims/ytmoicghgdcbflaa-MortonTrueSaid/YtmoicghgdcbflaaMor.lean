/- Package morton: codes of places; the walk of MortonTrue. -/
import Derived.Test.YtmoicghgdcbflaaMorP
namespace Go.Proofs.Ytmoicghgdcbflaa
set_option linter.unusedVariables false
open Go.RowKit

theorem ofInt64 (a : Nat) (ha : a < 9223372036854775808) : (BitVec.ofInt 64 (a : Int)).toNat = a := by
  rw [BitVec.ofInt_natCast, BitVec.toNat_ofNat]; exact Nat.mod_eq_of_lt (by omega)
theorem i64_or_nat (a b : Nat) (ha : a < 9223372036854775808) (hb : b < 9223372036854775808) : bits BinOp.or IntKind.i64 (a : Int) (b : Int) = ((a ||| b : Nat) : Int) := by
  have hx : a ||| b < 2 ^ 63 := Nat.or_lt_two_pow (by omega) (by omega)
  show IntKind.i64.wrap ((BitVec.ofInt 64 (a : Int) ||| BitVec.ofInt 64 (b : Int)).toNat : Int) = _
  rw [BitVec.toNat_or, ofInt64 a ha, ofInt64 b hb, IntKind.wrap_i64]
  omega
theorem i64_and_nat (a b : Nat) (ha : a < 9223372036854775808) (hb : b < 9223372036854775808) : bits BinOp.and IntKind.i64 (a : Int) (b : Int) = ((a &&& b : Nat) : Int) := by
  have hx : a &&& b ≤ a := Nat.and_le_left
  show IntKind.i64.wrap ((BitVec.ofInt 64 (a : Int) &&& BitVec.ofInt 64 (b : Int)).toNat : Int) = _
  rw [BitVec.toNat_and, ofInt64 a ha, ofInt64 b hb, IntKind.wrap_i64]
  omega

/-- A step of 'spread'. -/
theorem spread_step (g n s M x y : Nat) (hs : s = 2 ^ g) (hM : M = mk g (n + n)) (hMl : M < 9223372036854775808) (hs6 : s ≤ 65536) (hy : y = spr (g + g) n x) (hx : x ≤ 2097151) :
    ∃ z y' : Nat, y ≤ 4398046511104 ∧ bits BinOp.or IntKind.i64 (y : Int) ((y : Int) * (s : Int)) = (z : Int) ∧ bits BinOp.and IntKind.i64 (z : Int) (M : Int) = (y' : Int) ∧ y' = spr g (n + n) x := by
  have h1 := spr_sq (g + g) n x
  have h2 : x * x ≤ 2097151 * 2097151 := Nat.mul_le_mul hx hx
  have hyl : y ≤ 4398046511104 := by rw [hy]; omega
  have h3 : y * s ≤ 4398046511104 * 65536 := Nat.mul_le_mul hyl hs6
  have hst := spr_step g n x y hy
  rw [← hs, ← hM] at hst
  have hor : y ||| y * s < 2 ^ 63 := Nat.or_lt_two_pow (by omega) (by omega)
  refine ⟨y ||| y * s, (y ||| y * s) &&& M, hyl, ?_, i64_and_nat _ _ hor hMl, hst⟩
  rw [← Int.natCast_mul]
  exact i64_or_nat _ _ (by omega) (by omega)

set_option maxHeartbeats 1000000 in
theorem spread_any (x : Nat) (w : World) (hx : x ≤ 2097151) :
    Calls Try.prog 42 #[.int .i64 x] w fun e w' => e = .returned (.int .i64 (spr 1 32 x)) ∧ w = w' := by
  obtain ⟨z1, y1, l1, a1, b1, h1⟩ := spread_step 16 1 65536 281470681808895 x x (by decide) (by decide) (by omega) (by omega) (spr_whole 32 x (by omega)).symm hx
  obtain ⟨z2, y2, l2, a2, b2, h2⟩ := spread_step 8 2 256 71777214294589695 x y1 (by decide) (by decide) (by omega) (by omega) h1 hx
  obtain ⟨z3, y3, l3, a3, b3, h3⟩ := spread_step 4 4 16 1085102592571150095 x y2 (by decide) (by decide) (by omega) (by omega) h2 hx
  obtain ⟨z4, y4, l4, a4, b4, h4⟩ := spread_step 2 8 4 3689348814741910323 x y3 (by decide) (by decide) (by omega) (by omega) h3 hx
  obtain ⟨z5, y5, l5, a5, b5, h5⟩ := spread_step 1 16 2 6148914691236517205 x y4 (by decide) (by decide) (by omega) (by omega) h4 hx
  have H5 := Kp.mk h5
  clear h1 h2 h3 h4 h5
  have a1' : bits BinOp.or IntKind.i64 (x : Int) ((x : Int) * 65536) = (z1 : Int) := a1
  have a2' : bits BinOp.or IntKind.i64 (y1 : Int) ((y1 : Int) * 256) = (z2 : Int) := a2
  have a3' : bits BinOp.or IntKind.i64 (y2 : Int) ((y2 : Int) * 16) = (z3 : Int) := a3
  have a4' : bits BinOp.or IntKind.i64 (y3 : Int) ((y3 : Int) * 4) = (z4 : Int) := a4
  have a5' : bits BinOp.or IntKind.i64 (y4 : Int) ((y4 : Int) * 2) = (z5 : Int) := a5
  have b1' : bits BinOp.and IntKind.i64 (z1 : Int) 281470681808895 = (y1 : Int) := b1
  have b2' : bits BinOp.and IntKind.i64 (z2 : Int) 71777214294589695 = (y2 : Int) := b2
  have b3' : bits BinOp.and IntKind.i64 (z3 : Int) 1085102592571150095 = (y3 : Int) := b3
  have b4' : bits BinOp.and IntKind.i64 (z4 : Int) 3689348814741910323 = (y4 : Int) := b4
  have b5' : bits BinOp.and IntKind.i64 (z5 : Int) 6148914691236517205 = (y5 : Int) := b5
  clear a1 a2 a3 a4 a5 b1 b2 b3 b4 b5
  go_enter Try.func42, Try.ntmps42
  go_wp2
  go_ret
  refine ⟨ret_int ?_, rfl⟩
  rw [← H5.out]

/-- A step of 'gather'. -/
theorem gather_step (g n s M x y : Nat) (hs : s = 2 ^ g) (hM : M = mk (g + g) n) (hMl : M < 9223372036854775808) (hy : y = spr g (n + n) x) (hyl : y < 9223372036854775808) :
    ∃ z y' : Nat, bits BinOp.or IntKind.i64 (y : Int) ((y : Int) / (s : Int)) = (z : Int) ∧ bits BinOp.and IntKind.i64 (z : Int) (M : Int) = (y' : Int) ∧ y' = spr (g + g) n x ∧ y' < 9223372036854775808 := by
  have hst := gat_step g n x y hy
  rw [← hs, ← hM] at hst
  have hd : y / s ≤ y := Nat.div_le_self _ _
  have hor : y ||| y / s < 2 ^ 63 := Nat.or_lt_two_pow (by omega) (by omega)
  have hle : ((y ||| y / s) &&& M) ≤ M := Nat.and_le_right
  refine ⟨y ||| y / s, (y ||| y / s) &&& M, ?_, i64_and_nat _ _ hor hMl, hst, by omega⟩
  rw [← Int.natCast_ediv]
  exact i64_or_nat _ _ hyl (by omega)

set_option maxHeartbeats 1000000 in
theorem gather_any (c : Nat) (w : World) (hc : c < 9223372036854775808) (hev : ev 32 c < 4294967296) :
    Calls Try.prog 43 #[.int .i64 c] w fun e w' => e = .returned (.int .i64 (ev 32 c)) ∧ w = w' := by
  have b0 := i64_and_nat c 6148914691236517205 hc (by omega)
  have h0 : c &&& 6148914691236517205 = spr 1 32 (ev 32 c) := by
    rw [← ev_and]
    congr 1
  have hle : c &&& 6148914691236517205 ≤ 6148914691236517205 := Nat.and_le_right
  generalize c &&& 6148914691236517205 = y0 at *
  obtain ⟨z1, y1, a1, b1, h1, l1⟩ := gather_step 1 16 2 3689348814741910323 (ev 32 c) y0 (by decide) (by decide) (by omega) h0 (by omega)
  obtain ⟨z2, y2, a2, b2, h2, l2⟩ := gather_step 2 8 4 1085102592571150095 (ev 32 c) y1 (by decide) (by decide) (by omega) h1 l1
  obtain ⟨z3, y3, a3, b3, h3, l3⟩ := gather_step 4 4 16 71777214294589695 (ev 32 c) y2 (by decide) (by decide) (by omega) h2 l2
  obtain ⟨z4, y4, a4, b4, h4, l4⟩ := gather_step 8 2 256 281470681808895 (ev 32 c) y3 (by decide) (by decide) (by omega) h3 l3
  obtain ⟨z5, y5, a5, b5, h5, l5⟩ := gather_step 16 1 65536 4294967295 (ev 32 c) y4 (by decide) (by decide) (by omega) h4 l4
  have H5 : Kp (y5 = ev 32 c) := ⟨by rw [h5]; exact spr_whole 32 _ hev⟩
  clear h0 h1 h2 h3 h4 h5
  have b0' : bits BinOp.and IntKind.i64 (c : Int) 6148914691236517205 = (y0 : Int) := b0
  have a1' : bits BinOp.or IntKind.i64 (y0 : Int) ((y0 : Int) / 2) = (z1 : Int) := a1
  have a2' : bits BinOp.or IntKind.i64 (y1 : Int) ((y1 : Int) / 4) = (z2 : Int) := a2
  have a3' : bits BinOp.or IntKind.i64 (y2 : Int) ((y2 : Int) / 16) = (z3 : Int) := a3
  have a4' : bits BinOp.or IntKind.i64 (y3 : Int) ((y3 : Int) / 256) = (z4 : Int) := a4
  have a5' : bits BinOp.or IntKind.i64 (y4 : Int) ((y4 : Int) / 65536) = (z5 : Int) := a5
  have b1' : bits BinOp.and IntKind.i64 (z1 : Int) 3689348814741910323 = (y1 : Int) := b1
  have b2' : bits BinOp.and IntKind.i64 (z2 : Int) 1085102592571150095 = (y2 : Int) := b2
  have b3' : bits BinOp.and IntKind.i64 (z3 : Int) 71777214294589695 = (y3 : Int) := b3
  have b4' : bits BinOp.and IntKind.i64 (z4 : Int) 281470681808895 = (y4 : Int) := b4
  have b5' : bits BinOp.and IntKind.i64 (z5 : Int) 4294967295 = (y5 : Int) := b5
  clear a1 a2 a3 a4 a5 b0 b1 b2 b3 b4 b5 hev l1 l2 l3 l4 l5 hle hc
  go_enter Try.func43, Try.ntmps43
  go_wp2
  go_ret
  refine ⟨ret_int ?_, rfl⟩
  rw [← H5.out]

theorem fits_any (x : Nat) (w : World) (hx : x ≤ 1048576) :
    Calls Try.prog 41 #[.int .i64 x] w fun e w' => e = .returned (.bool true) ∧ w = w' := by
  go_enter Try.func41, Try.ntmps41
  go_wp2
  go_ret
  exact ⟨ret_bool (decide_eq_true (by omega)), rfl⟩

set_option maxHeartbeats 1000000 in
theorem code_any (x y : Nat) (w : World) (hx : x ≤ 1048576) (hy : y ≤ 1048576) :
    Calls Try.prog 17 #[.int .i64 x, .int .i64 y] w fun e w' => e = .returned (.tuple #[.int .i64 (cod x y), .int .i64 0]) ∧ w = w' := by
  have l1 := Nat.le_trans (spr_sq 1 32 x) (Nat.mul_le_mul hx hx)
  have l2 := Nat.le_trans (spr_sq 1 32 y) (Nat.mul_le_mul hy hy)
  have ho := i64_or_nat (spr 1 32 x) (spr 1 32 y * 2) (by omega) (by omega)
  have hcod : Kp (spr 1 32 x ||| spr 1 32 y * 2 = cod x y) := ⟨by rw [or_cod, cod_eq]⟩
  rw [hcod.out, Int.natCast_mul] at ho
  have ho' : bits BinOp.or IntKind.i64 (spr 1 32 x : Int) ((spr 1 32 y : Int) * 2) = (cod x y : Int) := ho
  clear ho
  generalize hA : spr 1 32 x = A at *
  generalize hB : spr 1 32 y = B at *
  generalize cod x y = C at *
  have HA := Kp.mk hA
  have HB := Kp.mk hB
  clear hA hB
  go_enter Try.func17, Try.ntmps17
  go_wp2_with fail
  refine (fits_any x _ hx).mono ?_
  rintro e w' ⟨rfl, rfl⟩
  go_wp2_with fail
  refine (fits_any y _ hy).mono ?_
  rintro e w' ⟨rfl, rfl⟩
  go_wp2_with fail
  refine (spread_any x _ (by omega)).mono ?_
  rintro e w' ⟨rfl, rfl⟩
  rw [HA.out]
  go_wp2_with fail
  refine (spread_any y _ (by omega)).mono ?_
  rintro e w' ⟨rfl, rfl⟩
  rw [HB.out]
  go_wp2
  go_ret2
  exact ⟨rfl, rfl⟩

set_option maxHeartbeats 1000000 in
theorem back_any (x y : Nat) (w : World) (hx : x ≤ 1048576) (hy : y ≤ 1048576) :
    Calls Try.prog 18 #[.int .i64 (cod x y)] w fun e w' => e = .returned (.tuple #[.int .i64 x, .int .i64 y, .int .i64 0]) ∧ w = w' := by
  have l1 := Nat.le_trans (spr_sq 1 32 x) (Nat.mul_le_mul hx hx)
  have l2 := Nat.le_trans (spr_sq 1 32 y) (Nat.mul_le_mul hy hy)
  have e1 := ev_cod 32 x y (by omega)
  have e2 := ev_half 32 x y (by omega)
  have hc : cod x y ≤ 3298534883328 := by rw [cod_eq]; omega
  rw [← cod_eq] at e1 e2
  generalize cod x y = C at *
  have E1 := Kp.mk e1
  have E2 := Kp.mk e2
  clear e1 e2 l1 l2
  go_enter Try.func18, Try.ntmps18
  go_wp2_with fail
  have g1 := gather_any C w (by omega) (by rw [E1.out]; omega)
  rw [E1.out] at g1
  refine g1.mono ?_
  rintro e w' ⟨rfl, rfl⟩
  clear g1
  go_wp2_with fail
  have g2 := gather_any (C / 2) w (by omega) (by rw [E2.out]; omega)
  rw [E2.out, Int.natCast_ediv] at g2
  refine g2.mono ?_
  rintro e w' ⟨rfl, rfl⟩
  clear g2
  go_wp2_with fail
  refine (fits_any x _ hx).mono ?_
  rintro e w' ⟨rfl, rfl⟩
  go_wp2_with fail
  refine (fits_any y _ hy).mono ?_
  rintro e w' ⟨rfl, rfl⟩
  go_wp2
  go_ret3
  exact ⟨rfl, rfl⟩

set_option maxHeartbeats 1000000 in
theorem walk_MortonTrue (a0 : Int) (a1 : Int) (a2 : Int) (a3 : Int) (w : World) (w0 : (Lit.int .i64 a0).wf = true) (w1 : (Lit.int .i64 a1).wf = true) (w2 : (Lit.int .i64 a2).wf = true) (w3 : (Lit.int .i64 a3).wf = true) :
    Calls Try.prog 4 #[.int .i64 a0, .int .i64 a1, .int .i64 a2, .int .i64 a3] w fun e w' => e = .returned (.bool true) ∧ Below w.heap.size w w' := by
  obtain ⟨b0, c0⟩ := wf_bd w0
  obtain ⟨b1, c1⟩ := wf_bd w1
  obtain ⟨b2, c2⟩ := wf_bd w2
  obtain ⟨b3, c3⟩ := wf_bd w3
  have p0 := pick_bd a0 524288 (by omega)
  have p1 := pick_bd a1 524288 (by omega)
  have p2 := pick_bd a2 1000 (by omega)
  have p3 := pick_bd a3 1000 (by omega)
  obtain ⟨x, hx⟩ : ∃ q : Nat, pick a0 524288 = q := ⟨_, (Int.toNat_of_nonneg p0.1).symm⟩
  obtain ⟨y, hy⟩ : ∃ q : Nat, pick a1 524288 = q := ⟨_, (Int.toNat_of_nonneg p1.1).symm⟩
  obtain ⟨dx, hdx⟩ : ∃ q : Nat, pick a2 1000 = q := ⟨_, (Int.toNat_of_nonneg p2.1).symm⟩
  obtain ⟨dy, hdy⟩ : ∃ q : Nat, pick a3 1000 = q := ⟨_, (Int.toNat_of_nonneg p3.1).symm⟩
  have lx : x < 524288 := by omega
  have ly : y < 524288 := by omega
  have ldx : dx < 1000 := by omega
  have ldy : dy < 1000 := by omega
  have HX := Kp.mk hx
  have HY := Kp.mk hy
  have HDX := Kp.mk hdx
  have HDY := Kp.mk hdy
  have hle := cod_le x y (x + dx) (y + dy) (by omega) (by omega) (by omega) (by omega)
  have q1 := Kp.mk (code_any x y w (by omega) (by omega))
  have q2 := Kp.mk (back_any x y w (by omega) (by omega))
  have q3 := code_any (x + dx) (y + dy) w (by omega) (by omega)
  rw [Int.natCast_add, Int.natCast_add] at q3
  have Q3 := Kp.mk q3
  have q4 := code_any 0 1 w (by omega) (by omega)
  rw [cod_one] at q4
  have Q4 := Kp.mk q4
  generalize cod (x + dx) (y + dy) = D at *
  generalize cod x y = C at *
  clear p0 p1 p2 p3 hx hy hdx hdy w0 w1 w2 w3 q3 q4
  go_enter Try.func4, Try.ntmps4
  go_wp2_with fail
  refine (picked_any a0 524288 _ (by omega) (by omega) b0 c0).mono ?_
  rintro e w' ⟨rfl, rfl⟩
  rw [HX.out]
  go_wp2_with fail
  refine (picked_any a1 524288 _ (by omega) (by omega) b1 c1).mono ?_
  rintro e w' ⟨rfl, rfl⟩
  rw [HY.out]
  go_wp2_with fail
  refine q1.out.mono ?_
  rintro e w' ⟨rfl, rfl⟩
  go_wp2_with fail
  refine q2.out.mono ?_
  rintro e w' ⟨rfl, rfl⟩
  go_wp2_with fail
  refine (picked_any a2 1000 _ (by omega) (by omega) b2 c2).mono ?_
  rintro e w' ⟨rfl, rfl⟩
  rw [HDX.out]
  go_wp2_with fail
  refine (picked_any a3 1000 _ (by omega) (by omega) b3 c3).mono ?_
  rintro e w' ⟨rfl, rfl⟩
  rw [HDY.out]
  go_wp2_with fail
  refine Q3.out.mono ?_
  rintro e w' ⟨rfl, rfl⟩
  go_wp2_with fail
  refine Q4.out.mono ?_
  rintro e w' ⟨rfl, rfl⟩
  have e1 : ((x : Int) == x) = true := by simp
  have e2 : ((y : Int) == y) = true := by simp
  have e3 : decide ((D : Int) ≥ C) = true := decide_eq_true (by omega)
  go_wp2
  go_ret
  exact ⟨ret_bool (by simp [hle]), Below.refl _ _⟩

end Go.Proofs.Ytmoicghgdcbflaa

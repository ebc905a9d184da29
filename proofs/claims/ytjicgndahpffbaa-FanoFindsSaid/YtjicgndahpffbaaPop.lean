/- Package pop: bits of a word. -/
import Derived.Test.YtjicgndahpffbaaPopP
namespace Go.Proofs.Ytjicgndahpffbaa
set_option linter.unusedVariables false
open Go.RowKit

theorem band (a b : Nat) (c d : Int) (ha : a < 18446744073709551616) (hb : b < 18446744073709551616) (hc : c = a) (hd : d = b) : bits BinOp.and IntKind.u64 c d = ((a &&& b : Nat) : Int) := by
  subst hc; subst hd
  exact bits_and_u64_nat a b ha hb
theorem uwrap (a : Nat) (c : Int) (hc : c = a) (ha : a < 18446744073709551616) : IntKind.u64.wrap c = (a : Int) := by
  subst hc
  exact IntWalk.u64_in _ (by omega)

/-- The steps of the count as the walk has them. -/
theorem unot (x : Nat) (h : x < 18446744073709551616) : bits BinOp.xor IntKind.u64 IntKind.u64.max (x : Int) = ((18446744073709551615 - x : Nat) : Int) := by
  rw [← xor_ones x h]
  exact u64_xor_nat 18446744073709551615 x (by omega) h
theorem oc_steps (x : Nat) (h : x < 18446744073709551616) : ∃ p1 p2 a q1 q2 b c0 c d e f : Nat,
    bits BinOp.and IntKind.u64 ((x : Int) / 2) 6148914691236517205 = (p1 : Int) ∧ bits BinOp.and IntKind.u64 (x : Int) 6148914691236517205 = (p2 : Int) ∧ IntKind.u64.wrap ((p1 : Int) + p2) = (a : Int) ∧
    bits BinOp.and IntKind.u64 ((a : Int) / 4) 3689348814741910323 = (q1 : Int) ∧ bits BinOp.and IntKind.u64 (a : Int) 3689348814741910323 = (q2 : Int) ∧ IntKind.u64.wrap ((q1 : Int) + q2) = (b : Int) ∧
    IntKind.u64.wrap ((b : Int) / 16 + b) = (c0 : Int) ∧ bits BinOp.and IntKind.u64 (c0 : Int) 1085102592571150095 = (c : Int) ∧
    IntKind.u64.wrap ((c : Int) + (c : Int) / 256) = (d : Int) ∧ IntKind.u64.wrap ((d : Int) + (d : Int) / 65536) = (e : Int) ∧ IntKind.u64.wrap ((e : Int) + (e : Int) / 4294967296) = (f : Int) ∧
    f &&& 127 = pcn 64 x ∧ f < 9223372036854775808 := by
  have a1 : (x / 2 &&& 6148914691236517205) ≤ 6148914691236517205 := Nat.and_le_right
  have a2 : (x &&& 6148914691236517205) ≤ 6148914691236517205 := Nat.and_le_right
  obtain ⟨p1, hp1⟩ : ∃ p, p = x / 2 &&& 6148914691236517205 := ⟨_, rfl⟩
  obtain ⟨p2, hp2⟩ : ∃ p, p = x &&& 6148914691236517205 := ⟨_, rfl⟩
  obtain ⟨a, ha⟩ : ∃ a, a = p1 + p2 := ⟨_, rfl⟩
  have a3 : (a / 4 &&& 3689348814741910323) ≤ 3689348814741910323 := Nat.and_le_right
  have a4 : (a &&& 3689348814741910323) ≤ 3689348814741910323 := Nat.and_le_right
  obtain ⟨q1, hq1⟩ : ∃ p, p = a / 4 &&& 3689348814741910323 := ⟨_, rfl⟩
  obtain ⟨q2, hq2⟩ : ∃ p, p = a &&& 3689348814741910323 := ⟨_, rfl⟩
  obtain ⟨b, hb⟩ : ∃ b, b = q1 + q2 := ⟨_, rfl⟩
  obtain ⟨c0, hc0⟩ : ∃ c, c = b / 16 + b := ⟨_, rfl⟩
  have a5 : (c0 &&& 1085102592571150095) ≤ 1085102592571150095 := Nat.and_le_right
  obtain ⟨c, hc⟩ : ∃ c, c = c0 &&& 1085102592571150095 := ⟨_, rfl⟩
  obtain ⟨d, hd⟩ : ∃ c', c' = c + c / 256 := ⟨_, rfl⟩
  obtain ⟨e, he⟩ : ∃ c', c' = d + d / 65536 := ⟨_, rfl⟩
  obtain ⟨f, hf⟩ : ∃ c', c' = e + e / 4294967296 := ⟨_, rfl⟩
  rw [← hp1] at a1
  rw [← hp2] at a2
  rw [← hq1] at a3
  rw [← hq2] at a4
  rw [← hc] at a5
  refine ⟨p1, p2, a, q1, q2, b, c0, c, d, e, f, ?_, ?_, ?_, ?_, ?_, ?_, ?_, ?_, ?_, ?_, ?_, ?_, ?_⟩
  · rw [hp1]; exact band (x / 2) _ _ _ (by omega) (by omega) (by omega) rfl
  · rw [hp2]; exact band x _ _ _ (by omega) (by omega) (by omega) rfl
  · exact uwrap a _ (by omega) (by omega)
  · rw [hq1]; exact band (a / 4) _ _ _ (by omega) (by omega) (by omega) rfl
  · rw [hq2]; exact band a _ _ _ (by omega) (by omega) (by omega) rfl
  · exact uwrap b _ (by omega) (by omega)
  · exact uwrap c0 _ (by omega) (by omega)
  · rw [hc]; exact band c0 _ _ _ (by omega) (by omega) (by omega) rfl
  · exact uwrap d _ (by omega) (by omega)
  · exact uwrap e _ (by omega) (by omega)
  · exact uwrap f _ (by omega) (by omega)
  · rw [← oc64_eq x h, hf, he, hd, hc, hc0, hb, hq1, hq2, ha, hp1, hp2]
    rfl
  · omega

set_option maxHeartbeats 400000 in
theorem oc_any (x : Nat) (w : World) (h : x < 18446744073709551616) :
    Calls Try.prog 153 #[.int .u64 x] w fun e w' => e = .returned (.int .i64 (pcn 64 x)) ∧ w = w' := by
  obtain ⟨p1, p2, a, q1, q2, b, c0, c, d, e, f, h1, h2, h3, h4, h5, h6, h7, h8, h9, h10, h11, h12, h13⟩ := oc_steps x h
  have H12 := Lib.hid h12
  clear h12 h
  have h13' : (f : Int) ≤ 9223372036854775807 := by omega
  clear h13
  go_enter Try.func153, Try.ntmps153
  go_wp2
  go_ret
  refine ⟨ret_int ?_, rfl⟩
  rw [← H12.out, show f &&& 127 = f % 128 from Nat.and_two_pow_sub_one_eq_mod f 7]
  exact (i64_and127 _).trans (by simp)

theorem ones_any (x : Nat) (w : World) (h : x < 18446744073709551616) :
    Calls Try.prog 138 #[.int .u64 x] w fun e w' => e = .returned (.int .i64 (pcn 64 x)) ∧ w = w' := by
  go_enter Try.func138, Try.ntmps138
  go_wp2_with fail
  refine (oc_any x _ h).mono ?_
  rintro e w' ⟨rfl, rfl⟩
  go_wp2
  go_ret
  exact ⟨rfl, rfl⟩

/-- A mask of i ones. -/
theorem mask_and (x i : Nat) (h : x < 18446744073709551616) (hi : i ≤ 64) :
    bits BinOp.and IntKind.u64 (x : Int) (IntKind.u64.wrap (IntKind.u64.wrap (2 ^ i) - 1)) = ((x % 2 ^ i : Nat) : Int) := by
  have hw : IntKind.u64.wrap (IntKind.u64.wrap (2 ^ i) - 1) = ((2 ^ i - 1 : Nat) : Int) := by
    by_cases h64 : i = 64
    · subst h64; rfl
    · have hlt : (2 : Nat) ^ i ≤ 2 ^ 63 := Nat.pow_le_pow_right (by omega) (by omega)
      have hp : 0 < (2 : Nat) ^ i := Nat.pow_pos (by omega)
      have e1 : IntKind.u64.wrap (2 ^ i) = ((2 ^ i : Nat) : Int) := uwrap (2 ^ i) _ (by simp) (by omega)
      rw [e1]
      exact uwrap (2 ^ i - 1) _ (by omega) (by omega)
  have hle : (2 : Nat) ^ i ≤ 2 ^ 64 := Nat.pow_le_pow_right (by omega) hi
  rw [hw, band x (2 ^ i - 1) _ _ h (by omega) rfl rfl, Nat.and_two_pow_sub_one_eq_mod]
theorem mask_div (x a i : Nat) (h : x / 2 ^ a < 18446744073709551616) (hi : i ≤ 64) :
    bits BinOp.and IntKind.u64 ((x : Int) / 2 ^ a) (IntKind.u64.wrap (IntKind.u64.wrap (2 ^ i) - 1)) = ((x / 2 ^ a % 2 ^ i : Nat) : Int) := by
  rw [← mask_and (x / 2 ^ a) i h hi]
  simp
theorem mod_lt64 (x n : Nat) (h : x < 18446744073709551616) : x % n < 18446744073709551616 := Nat.lt_of_le_of_lt (Nat.mod_le _ _) h
theorem div_lt64 (x n : Nat) (h : x < 18446744073709551616) : x / n < 18446744073709551616 := Nat.lt_of_le_of_lt (Nat.div_le_self _ _) h

set_option maxHeartbeats 400000 in
theorem rank_any (x i : Nat) (w : World) (h : x < 18446744073709551616) (hi : i ≤ 64) :
    Calls Try.prog 139 #[.int .u64 x, .int .i64 i] w fun e w' => e = .returned (.tuple #[.int .i64 (pcn i x), .int .i64 0]) ∧ w = w' := by
  go_enter Try.func139, Try.ntmps139
  go_wp2_with fail
  rw [mask_and x i h hi]
  have HX := Lib.hid (mod_lt64 x (2 ^ i) h)
  have hp := Lib.hid (pcn_mod 64 i x hi)
  generalize x % 2 ^ i = y at *
  refine (oc_any y _ HX.out).mono ?_
  rintro e w' ⟨rfl, rfl⟩
  rw [hp.out]
  go_wp2
  go_ret2
  exact ⟨rfl, rfl⟩

/-- Behind the last one there is none. -/
theorem select_none (x : Nat) (k : Int) (w : World) (h : x < 18446744073709551616) (h0 : 0 ≤ k) (hk : (pcn 64 x : Int) ≤ k) :
    Calls Try.prog 140 #[.int .u64 x, .int .i64 k] w fun e w' => e = .returned (.tuple #[.int .i64 0, .int .i64 7]) ∧ w = w' := by
  have HX := Lib.hid h
  clear h
  go_enter Try.func140, Try.ntmps140
  go_wp2_with fail
  refine (ones_any x _ HX.out).mono ?_
  rintro e w' ⟨rfl, rfl⟩
  go_wp2
  go_ret2
  exact ⟨rfl, rfl⟩

set_option maxHeartbeats 1000000 in
theorem select_any (x K : Nat) (w : World) (h : x < 18446744073709551616) (hK : K < pcn 64 x) :
    Calls Try.prog 140 #[.int .u64 x, .int .i64 K] w fun e w' => ∃ at' : Nat, e = .returned (.tuple #[.int .i64 at', .int .i64 0]) ∧ at' < 64 ∧ pcn at' x = K ∧ x / 2 ^ at' % 2 = 1 ∧ Drew w w' := by
  have HX := Lib.hid h
  have hle := pcn_le 64 x
  clear h
  go_enter Try.func140, Try.ntmps140
  go_wp2_with fail
  refine (ones_any x _ HX.out).mono ?_
  rintro e w' ⟨rfl, rfl⟩
  generalize ht : pcn 64 x = t at *
  have HT := Kp.mk ht
  clear ht
  go_wp2
  go_loopw [1, 6, 7] (fun kv av hv wr => ∃ (k a e : Nat), kv = .int .i64 k ∧ av = .int .i64 a ∧ hv = .int .i64 (2 ^ e / 2 : Nat) ∧ e ≤ 6 ∧ a + 2 ^ e ≤ 64 ∧ k ≤ 64 ∧ Hid (k + pcn a x = K ∧ K < pcn (a + 2 ^ e) x) ∧ Drew w wr) (fun _ _ hv _ => (intOf hv).toNat)
  case atStart => exact ⟨K, 0, 6, rfl, rfl, rfl, by omega, by omega, by omega, ⟨by rw [pcn_none]; omega, by rw [Nat.zero_add, show 2 ^ 6 = 64 by rfl, HT.out]; exact hK⟩, Drew.refl w⟩
  case round =>
    obtain ⟨k, a, e, rfl, rfl, rfl, he, ha, hk64, HI, hD⟩ := hrel
    cases e with
    | zero =>
      go_wp2
      go_ret2
      have h1 := HI.out.1
      have h2 := HI.out.2
      have h3 := pcn_add a 1 x
      rw [pcn_one] at h3
      rw [show a + 2 ^ 0 = a + 1 by omega] at h2
      exact ⟨a, rfl, by omega, by omega, by omega, hD⟩
    | succ e =>
      obtain ⟨p, hp⟩ : ∃ p, p = 2 ^ e := ⟨_, rfl⟩
      have hp0 : 0 < p := by rw [hp]; exact Nat.pow_pos (by omega)
      have hpe : 2 ^ (e + 1) / 2 = p := by rw [Nat.pow_succ, hp]; omega
      have hpe2 : 2 ^ (e + 1) = p + p := by rw [Nat.pow_succ, hp]; omega
      rw [hpe2] at ha
      have hp32 : p ≤ 32 := by omega
      have HI2 := Lib.hid (show k + pcn a x = K ∧ K < pcn (a + p + p) x ∧ pcn (a + p) x = pcn a x + pcn p (x / 2 ^ a) by
        refine ⟨HI.out.1, ?_, pcn_add a p x⟩
        have := HI.out.2
        rwa [hpe2, ← Nat.add_assoc] at this)
      rw [hpe]
      have HP := Kp.mk hp
      clear hp hpe hpe2 HI
      have hdec : decide ((p : Int) > 0) = true := by simp; omega
      have hmask := Kp.mk (mask_div x a p (div_lt64 _ _ HX.out) (by omega))
      go_wp2
      go_quiet ((go_at_call 138; rw [hmask.out]; exact q_same (ones_any _ _ (mod_lt64 _ _ (div_lt64 _ _ HX.out)))))
      have HI3 := HI2.out
      rw [show pcn p (x / 2 ^ a) = pcn 64 (x / 2 ^ a % 2 ^ p) from (pcn_mod 64 p _ (by omega)).symm] at HI3
      have hle3 := pcn_le 64 (x / 2 ^ a % 2 ^ p)
      generalize pcn 64 (x / 2 ^ a % 2 ^ p) = m at *
      have HI4 := Kp.mk HI3
      clear HI2 HI3 hmask
      by_cases hmk : m ≤ k
      · go_wp2
        go_roundw
        case rel =>
          refine ⟨k - m, a + p, e, by go_num, by go_num, by rw [← HP.out]; go_num, by omega, by rw [← HP.out]; omega, by omega, ?_, hD.more nq⟩
          have := HI4.out
          exact ⟨by omega, by rw [← HP.out]; omega⟩
        case measure => simp [intOf]; omega
      · go_wp2
        go_roundw
        case rel =>
          refine ⟨k, a, e, rfl, rfl, by rw [← HP.out]; go_num, by omega, by rw [← HP.out]; omega, by omega, ?_, hD.more nq⟩
          have := HI4.out
          exact ⟨by omega, by rw [← HP.out]; omega⟩
        case measure => simp [intOf]; omega

end Go.Proofs.Ytjicgndahpffbaa

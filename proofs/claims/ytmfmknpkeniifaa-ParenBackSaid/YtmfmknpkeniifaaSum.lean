/- image.Sum: what it computes. -/
import Derived.Test.YtmfmknpkeniifaaSumP
namespace Go.Proofs.Ytmfmknpkeniifaa
set_option linter.unusedVariables false
open Go.RowKit

/-- A list of bytes as cells. -/
def byts (l : List Nat) : List Value := l.map fun (n : Nat) => .int .u8 (n : Int)
def SlB (w : World) (a : Option Addr) (len cap : Nat) (l : List Nat) : Prop := SlC w a len cap 1 (byts l)
theorem byts_length (l : List Nat) : (byts l).length = l.length := by simp [byts]
theorem SlB.at {w : World} {a : Option Addr} {len cap : Nat} {l : List Nat} (h : SlB w a len cap l) (i : Nat) (hi : i < l.length) : ∃ b off, a = some ⟨b, off, none⟩ ∧ w.cell? ⟨b, off + i, none⟩ = some (.int .u8 (l[i] : Nat)) := by
  obtain ⟨b, off, ha, hc⟩ := SlC.cell h i (by rw [byts_length]; exact hi)
  exact ⟨b, off, ha, by rw [hc]; simp [byts]⟩

theorem u32wrap (a : Nat) (c : Int) (hc : c = a) (ha : a < 4294967296) : IntKind.u32.wrap c = (a : Int) := by
  subst hc
  rw [IntKind.wrap_u32']; omega

set_option maxHeartbeats 1000000 in
theorem sum_any (a : Option Addr) (len cap : Nat) (l : List Nat) (w : World) (h : SlB w a len cap l) (hn : l.length = len) (hl : len ≤ 9223372036854775806) (hb : ∀ x ∈ l, x < 256) :
    Calls Try.prog 47 #[.slice a len cap] w fun e w' => e = .returned (.int .i64 (crc l)) ∧ w = w' := by
  have H := Kp.mk h
  have HB := Kp.mk hb
  have HN := Kp.mk hn
  clear h hb hn
  go_enter Try.func47, Try.ntmps47
  go_wp2
  go_loop [3, 9] (fun nv i => ∃ k : Nat, ∃ n : Nat, k ≤ len ∧ i = .int .i64 k ∧ nv = .int .u32 n ∧ Kp (n = (l.take k).foldl crcB 4294967295) ∧ n < 4294967296) (fun _ i => len - (intOf i).toNat)
  case atStart => exact ⟨0, 4294967295, Nat.zero_le _, rfl, rfl, ⟨rfl⟩, by omega⟩
  case round =>
    obtain ⟨k, n, hk, rfl, rfl, hN, hn⟩ := hrel
    by_cases hlt : k < len
    · have hkl : k < l.length := by rw [HN.out]; exact hlt
      obtain ⟨b, off, rfl, c1⟩ := H.out.at k hkl
      have hx := HB.out l[k] (List.getElem_mem hkl)
      obtain ⟨x, hxe⟩ : ∃ x, x = l[k] := ⟨_, rfl⟩
      rw [← hxe] at c1 hx
      have HX := Kp.mk hxe
      clear hxe
      have e1 : bits BinOp.xor IntKind.u32 (n : Int) (x : Int) = ((n ^^^ x : Nat) : Int) := u32_xor_nat n x hn (by omega)
      have hnx : n ^^^ x < 4294967296 := Nat.xor_lt_two_pow (n := 32) hn (by omega)
      have hstep : Kp ((l.take (k + 1)).foldl crcB 4294967295 = crcN 8 (n ^^^ x)) := by
        refine ⟨?_⟩
        rw [List.take_succ_eq_append_getElem hkl, List.foldl_append, ← hN.out, ← HX.out]
        exact crcB_eq n x
      generalize n ^^^ x = m at *
      go_wp2
      go_loop [3, 17] (fun nv i => ∃ j : Nat, ∃ v : Nat, j ≤ 8 ∧ i = .int .i64 j ∧ nv = .int .u32 v ∧ Kp (v = crcN j m) ∧ v < 4294967296) (fun _ i => 8 - (intOf i).toNat)
      case atStart => exact ⟨0, m, by omega, rfl, rfl, ⟨(crcN_zero m).symm⟩, hnx⟩
      case round =>
        obtain ⟨j, v, hj, rfl, rfl, hV, hv⟩ := hrel
        by_cases hj8 : j < 8
        · have e1 : bits BinOp.and IntKind.u32 (v : Int) 1 = ((v % 2 : Nat) : Int) := by
            rw [show (1 : Int) = ((1 : Nat) : Int) from rfl, u32_and_nat v 1 hv (by omega), Nat.and_one_is_mod]
          rcases Nat.mod_two_eq_zero_or_one v with ho | ho
          · rw [ho] at e1
            have hn2 := Kp.mk (crcN_even j m v hV.out ho)
            clear ho
            go_wp2
            go_round
            case rel => exact ⟨j + 1, v / 2, by omega, by go_num, by go_num, hn2, by omega⟩
            case measure => simp [intOf]; omega
          · rw [ho] at e1
            have hn2 := Kp.mk (crcN_odd j m v hV.out ho)
            have e2 : bits BinOp.xor IntKind.u32 ((v : Int) / 2) 3988292384 = (((v / 2) ^^^ 3988292384 : Nat) : Int) := by
              rw [show (v : Int) / 2 = ((v / 2 : Nat) : Int) by omega]
              exact u32_xor_nat (v / 2) 3988292384 (by omega) (by omega)
            have hlt3 : (v / 2) ^^^ 3988292384 < 4294967296 := Nat.xor_lt_two_pow (n := 32) (by omega) (by omega)
            generalize (v / 2) ^^^ 3988292384 = u at *
            clear ho
            go_wp2
            go_round
            case rel => exact ⟨j + 1, u, by omega, by go_num, rfl, hn2, hlt3⟩
            case measure => simp [intOf]; omega
        · obtain rfl : j = 8 := by omega
          go_wp2
          go_round
          case rel => exact ⟨k + 1, v, by omega, by go_num, rfl, ⟨by rw [hV.out, hstep.out]⟩, hv⟩
          case measure => simp [intOf]; omega
    · obtain rfl : k = len := by omega
      have hfin : Kp (crc l = 4294967295 - n) := ⟨crc_eq l n (by rw [hN.out, List.take_of_length_le (by rw [HN.out]; exact Nat.le_refl _)])⟩
      have e1 : bits BinOp.xor IntKind.u32 IntKind.u32.max (n : Int) = ((4294967295 - n : Nat) : Int) := by
        rw [ones_sub n hn]
        exact u32_xor_nat 4294967295 n (by omega) hn
      obtain ⟨m, hM⟩ : ∃ m, m = 4294967295 - n := ⟨_, rfl⟩
      rw [← hM] at e1
      have hml : m < 4294967296 := by omega
      have HM := Kp.mk hM
      clear hM
      go_wp2
      go_ret
      exact ⟨ret_int (by rw [hfin.out, ← HM.out]; exact IntWalk.wrap64_in _ ⟨by omega, by omega⟩), rfl⟩

end Go.Proofs.Ytmfmknpkeniifaa

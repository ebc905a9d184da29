/- Package bits: a bit is selected. -/
import Derived.Test.YtjicgndahpffbaaRank
namespace Go.Proofs.Ytjicgndahpffbaa
set_option linter.unusedVariables false
open Go.RowKit

/-- The noughts of m words. -/
def cmpl (m N : Nat) : Nat := 2 ^ (64 * m) - 1 - N
theorem cmpl_bit (m N i : Nat) (h : N < 2 ^ (64 * m)) (hi : i < 64 * m) : bitB (cmpl m N) i = !bitB N i := by
  rw [bitB_test, bitB_test]
  unfold cmpl
  rw [show 2 ^ (64 * m) - 1 - N = 2 ^ (64 * m) - (N + 1) by omega, Nat.testBit_two_pow_sub_succ h]
  simp [hi]
theorem cmpl_pcn (m N i : Nat) (h : N < 2 ^ (64 * m)) (hi : i ≤ 64 * m) : pcn i N + pcn i (cmpl m N) = i := pcn_compl i (64 * m) N hi h
theorem cmpl_wrd (m N j : Nat) (h : N < 2 ^ (64 * m)) (hj : j < m) : wrd (cmpl m N) j = 18446744073709551615 - wrd N j := by
  have hw := wrd_lt N j
  apply Nat.eq_of_testBit_eq
  intro i
  rw [show 18446744073709551615 - wrd N j = 2 ^ 64 - (wrd N j + 1) by omega, Nat.testBit_two_pow_sub_succ hw]
  unfold wrd
  rw [Nat.testBit_mod_two_pow, Nat.testBit_div_two_pow, Nat.testBit_mod_two_pow, Nat.testBit_div_two_pow]
  by_cases hi : i < 64
  · have h1 : i + 64 * j < 64 * m := by
      have : 64 * (j + 1) ≤ 64 * m := Nat.mul_le_mul_left _ hj
      omega
    have h2 := cmpl_bit m N (i + 64 * j) h h1
    rw [bitB_test, bitB_test] at h2
    rw [h2]
    simp [hi]
  · simp [hi]
theorem pcn_mono (N i : Nat) : ∀ j, i ≤ j → pcn i N ≤ pcn j N
  | 0, h => by obtain rfl : i = 0 := by omega
               exact Nat.le_refl _
  | j + 1, h => by
    by_cases hij : i = j + 1
    · subst hij; exact Nat.le_refl _
    · have := pcn_mono N i j (by omega)
      rw [pcn_succ]; omega

/-- What Select answers of the ones of M. -/
def SelRet (M n K : Nat) (w : World) (e : Ending) (w' : World) : Prop :=
  Below w.heap.size w w' ∧ ((∃ p : Nat, p < n ∧ bitB M p = true ∧ pcn p M = K ∧ e = .returned (.tuple #[.int .i64 p, .int .i64 0])) ∨ (pcn n M ≤ K ∧ e = .returned (.tuple #[.int .i64 0, .int .i64 7])))

set_option maxRecDepth 100000 in
set_option maxHeartbeats 1000000 in
theorem bsel_ok (one : Bool) (B : Nat) (sa : Option Addr) (m cap n K N M : Nat) (w : World) (hm : m = bwN n) (hO : w.ownsRow B 154 1 (.slice sa m cap) m (wds (wordsOf N m))) (hn : n ≤ 4096) (hK : K ≤ 5000) (hN : N < 2 ^ n) (hM : M = if one then N else cmpl m N) :
    Calls Try.prog 123 #[.agg #[.int .i64 n, .slice sa m cap], .bool one, .int .i64 K] w (SelRet M n K w) := by
  have hnm : n ≤ 64 * m := by rw [hm]; unfold bwN; omega
  have hN2 : N < 2 ^ (64 * m) := Nat.lt_of_lt_of_le hN (Nat.pow_le_pow_right (by omega) hnm)
  have hword : ∀ j, j < m → wrd M j = if one then wrd N j else 18446744073709551615 - wrd N j := fun j hj => by
    rw [hM]; cases one
    · exact cmpl_wrd m N j hN2 hj
    · rfl
  have HWD := Kp.mk hword
  have HM := Kp.mk hm
  have HO := Kp.mk hO
  have HN := Kp.mk hN
  have hm64 : m ≤ 64 := by rw [hm]; unfold bwN; omega
  have t1 : decide ((K : Int) < 0) = false := decide_eq_false (by omega)
  clear hm hO hN hM hword hN2
  go_enter Try.func123, Try.ntmps123
  go_wp2_with fail
  refine (bmay_ok sa n m cap N _ HM.out ((own_slc HO.out).below (below_alloc (Nat.le_refl _) _)) hn HN.out).mono ?_
  rintro e w1 ⟨rfl, hbel⟩
  have h4 := (Box.new w #[Value.int IntKind.i64 ↑n, Value.slice sa m cap] 42).below hbel
  obtain ⟨⟨d0, d1⟩, -⟩ := box2 h4
  have HB4 := Kp.mk h4
  have hB : Kp (Below w.heap.size w w1) := ⟨below_step (below_alloc (Nat.le_refl _) _) hbel⟩
  have HW := Kp.mk (own_below HO.out hB.out)
  clear hbel h4 HO
  go_wp2
  clear t1
  go_loop [2, 23] (fun kv i => ∃ (j K' : Nat), j ≤ m ∧ i = .int .i64 j ∧ kv = .int .i64 K' ∧ K' ≤ 5000 ∧ Kp (K' + pcn (64 * j) M = K)) (fun _ i => m - (intOf i).toNat)
  case atStart => exact ⟨0, K, Nat.zero_le _, rfl, rfl, hK, ⟨by rw [Nat.mul_zero, pcn_none]; rfl⟩⟩
  case round =>
    obtain ⟨j, K', hj, rfl, rfl, hK', HK⟩ := hrel
    by_cases hlt : j < m
    · obtain ⟨g, rfl, _, _⟩ := own_some HW.out (by omega)
      have c2 := wds_cell HW.out hlt
      have hx : wrd N j < 18446744073709551616 := wrd_lt _ _
      have hy : wrd M j < 18446744073709551616 := wrd_lt _ _
      have hwj := HWD.out j hlt
      have hun := unot (wrd N j) hx
      have hpw := Kp.mk (pcn_words M j)
      have hpr := Kp.mk (fun r (hr : r ≤ 64) => pcn_rest M j r hr)
      have hbt := Kp.mk (fun r (hr : r < 64) => show bitB M (64 * j + r) = bitB (wrd M j) r by
        have := wrd_bit M (64 * j + r)
        rw [show (64 * j + r) / 64 = j by omega, show (64 * j + r) % 64 = r by omega] at this
        exact this.symm)
      generalize wrd N j = x at *
      generalize wrd M j = y at *
      have hp64 := pcn_le 64 y
      have C := Kp.mk (fun W => ones_any y W hy)
      have CS := Kp.mk (fun W (h : K' < pcn 64 y) => select_any y K' W hy h)
      have hlast : ∀ p, p < 64 → 64 * j + p < n ∨ n ≤ 64 * j + p := fun p _ => by omega
      have hxy : (one = true ∧ x = y) ∨ (one = false ∧ 18446744073709551615 - x = y) := by
        cases one
        · exact .inr ⟨rfl, by rw [hwj]; rfl⟩
        · exact .inl ⟨rfl, by rw [hwj]; rfl⟩
      clear hwj
      rcases hxy with ⟨rfl, rfl⟩ | ⟨rfl, hxy⟩
      · clear hun
        by_cases hlt2 : K' < pcn 64 x
        · have C2 := Kp.mk (CS.out w1 hlt2)
          have hlt3 : decide (K' < pcn 64 x) = true := decide_eq_true hlt2
          generalize pcn 64 x = z at *
          go_wp2_with fail
          refine (C.out _).mono ?_
          rintro e w' ⟨rfl, rfl⟩
          go_wp2_with fail
          refine C2.out.mono ?_
          rintro e w2 ⟨a9, rfl, h64, hpc, hbit, hdr⟩
          have d9 : w2.cell? ⟨w.heap.size, 0, none⟩ = some (.int .i64 n) := by rw [hdr.cell]; exact d0
          have HBD := Kp.mk (below_step hB.out (hdr.below _))
          have hbm := Kp.mk (show bitB M (64 * j + a9) = true by
            rw [hbt.out a9 h64]
            unfold bitB
            rw [hbit]; rfl)
          have hrk := Kp.mk (show pcn (64 * j + a9) M = K by
            have h1 := hpr.out a9 (by omega)
            have h2 := HK.out
            omega)
          clear hdr hpc hbit CS C2 C
          rcases hlast a9 h64 with h | h
          · have HH := Kp.mk h
            have t2 : (a9 : Int) + (j : Int) * 64 < n := by omega
            clear h hlast
            go_wp2
            go_ret2
            refine ⟨HBD.out, .inl ⟨64 * j + a9, HH.out, hbm.out, hrk.out, ?_⟩⟩
            show Ending.returned (.tuple #[.int .i64 ((a9 : Int) + (j : Int) * 64), .int .i64 0]) = _
            rw [show (a9 : Int) + (j : Int) * 64 = ((64 * j + a9 : Nat) : Int) by omega]
          · have hfin := Kp.mk (show pcn n M ≤ K by
              have h1 := pcn_mono M n (64 * j + a9) h
              have h2 := hrk.out
              omega)
            have t2 : ¬ (a9 : Int) + (j : Int) * 64 < n := by omega
            clear h hlast
            go_wp2
            go_ret2
            exact ⟨HBD.out, .inr ⟨hfin.out, rfl⟩⟩
        · have hlt3 : decide (K' < pcn 64 x) = false := decide_eq_false hlt2
          generalize pcn 64 x = z at *
          have hKz : K' = (K' - z) + z := by omega
          have HK2 := Kp.mk (show (K' - z) + pcn (64 * (j + 1)) M = K by
            have h1 := HK.out
            have h2 := hpw.out
            omega)
          have hle : z ≤ K' := by omega
          have e3 : (K' : Int) - (z : Int) = ((K' - z : Nat) : Int) := by omega
          clear CS hlast hKz
          go_wp2_with fail
          refine (C.out _).mono ?_
          rintro e w' ⟨rfl, rfl⟩
          go_wp2
          go_round
          case rel => exact ⟨j + 1, K' - z, by omega, by go_num, by go_num, by omega, HK2⟩
          case measure => simp [intOf]; omega
      · rw [hxy] at hun
        clear hxy
        by_cases hlt2 : K' < pcn 64 y
        · have C2 := Kp.mk (CS.out w1 hlt2)
          have hlt3 : decide (K' < pcn 64 y) = true := decide_eq_true hlt2
          generalize pcn 64 y = z at *
          go_wp2_with fail
          refine (C.out _).mono ?_
          rintro e w' ⟨rfl, rfl⟩
          go_wp2_with fail
          refine C2.out.mono ?_
          rintro e w2 ⟨a9, rfl, h64, hpc, hbit, hdr⟩
          have d9 : w2.cell? ⟨w.heap.size, 0, none⟩ = some (.int .i64 n) := by rw [hdr.cell]; exact d0
          have HBD := Kp.mk (below_step hB.out (hdr.below _))
          have hbm := Kp.mk (show bitB M (64 * j + a9) = true by
            rw [hbt.out a9 h64]
            unfold bitB
            rw [hbit]; rfl)
          have hrk := Kp.mk (show pcn (64 * j + a9) M = K by
            have h1 := hpr.out a9 (by omega)
            have h2 := HK.out
            omega)
          clear hdr hpc hbit CS C2 C
          rcases hlast a9 h64 with h | h
          · have HH := Kp.mk h
            have t2 : (a9 : Int) + (j : Int) * 64 < n := by omega
            clear h hlast
            go_wp2
            go_ret2
            refine ⟨HBD.out, .inl ⟨64 * j + a9, HH.out, hbm.out, hrk.out, ?_⟩⟩
            show Ending.returned (.tuple #[.int .i64 ((a9 : Int) + (j : Int) * 64), .int .i64 0]) = _
            rw [show (a9 : Int) + (j : Int) * 64 = ((64 * j + a9 : Nat) : Int) by omega]
          · have hfin := Kp.mk (show pcn n M ≤ K by
              have h1 := pcn_mono M n (64 * j + a9) h
              have h2 := hrk.out
              omega)
            have t2 : ¬ (a9 : Int) + (j : Int) * 64 < n := by omega
            clear h hlast
            go_wp2
            go_ret2
            exact ⟨HBD.out, .inr ⟨hfin.out, rfl⟩⟩
        · have hlt3 : decide (K' < pcn 64 y) = false := decide_eq_false hlt2
          generalize pcn 64 y = z at *
          have hKz : K' = (K' - z) + z := by omega
          have HK2 := Kp.mk (show (K' - z) + pcn (64 * (j + 1)) M = K by
            have h1 := HK.out
            have h2 := hpw.out
            omega)
          have hle : z ≤ K' := by omega
          have e3 : (K' : Int) - (z : Int) = ((K' - z : Nat) : Int) := by omega
          clear CS hlast hKz
          go_wp2_with fail
          refine (C.out _).mono ?_
          rintro e w' ⟨rfl, rfl⟩
          go_wp2
          go_round
          case rel => exact ⟨j + 1, K' - z, by omega, by go_num, by go_num, by omega, HK2⟩
          case measure => simp [intOf]; omega
    · obtain rfl : j = m := by omega
      have hfin : Kp (pcn n M ≤ K) := ⟨by
        have h1 := pcn_mono M n (64 * j) hnm
        have h2 := HK.out
        omega⟩
      go_wp2
      go_ret2
      exact ⟨hB.out, .inr ⟨hfin.out, rfl⟩⟩

end Go.Proofs.Ytjicgndahpffbaa

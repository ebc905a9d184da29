/- Package perm: the number of an order. -/
import Derived.Test.YtjofajpcchncpaaCntP
namespace Go.Proofs.Ytjofajpcchncpaa
set_option linter.unusedVariables false
open Go.RowKit

theorem check_n (a : Option Addr) (cap n : Nat) (l : List Int) (w : World) (h : SlI w a cap l) (hn : l.length = n) (hl : n ≤ 300) (hp : Order l) :
    Calls Try.prog 41 #[.slice a n cap] w (fun e w' => e = .returned (.int .i64 0) ∧ Below w.heap.size w w') := by
  subst hn; exact check_any a cap l w h hl hp

set_option maxRecDepth 100000 in
set_option maxHeartbeats 1000000 in
theorem number_any (a : Option Addr) (cap n : Nat) (p : List Int) (w : World) (h : SlI w a cap p) (hn : p.length = n) (hl : n ≤ 12) (hp : Order p) :
    Calls Try.prog 17 #[.slice a n cap] w (fun e w' => e = .returned (.tuple #[.int .i64 (numL p n : Nat), .int .i64 0]) ∧ Below w.heap.size w w') := by
  have C := Kp.mk (check_n a cap n p w h hn (by omega) hp)
  have hcap : n ≤ cap := by have := h.le; omega
  have hcm : cap ≤ 9223372036854775807 := by have := h.capm; unfold maxLen at this; omega
  have H := Kp.mk h
  have HN := Kp.mk hn
  clear h hn hp
  go_enter Try.func17, Try.ntmps17
  go_wp2_with fail
  refine C.out.mono ?_
  rintro e w1 ⟨rfl, hb⟩
  have HB := Kp.mk hb
  have HS := Kp.mk (H.out.below hb)
  clear hb C H
  go_wp2
  go_loop [5, 21] (fun s i => ∃ j : Nat, j ≤ n ∧ i = .int .i64 j ∧ s = .int .i64 (numL p j : Nat)) (fun _ i => n - (intOf i).toNat)
  case atStart => exact ⟨0, Nat.zero_le _, rfl, by rw [numL_zero]; rfl⟩
  case round =>
    obtain ⟨j, hj, rfl, rfl⟩ := hrel
    have hnb := num_bd p j (by rw [HN.out]; exact hj) (by rw [HN.out]; exact hl)
    by_cases hlt : j < n
    · obtain ⟨b, off, rfl, c1⟩ := HS.out.at j (by rw [HN.out]; exact hlt)
      have hx : Kp (p[j]'(by rw [HN.out]; exact hlt) = p.getD j 0) := ⟨(getD_at _ _ _).symm⟩
      have hsu := Kp.mk (numL_succ p j)
      have hnb2 := num_bd p (j + 1) (by rw [HN.out]; exact hlt) (by rw [HN.out]; exact hl)
      rw [HN.out] at hsu
      rw [hx.out] at c1
      have hEND := Kp.mk (lessK_end p j)
      have hSUC := Kp.mk (fun k (hk : j + 1 + k < p.length) => lessK_succ p j k hk)
      have hlk := lessK_le p j
      generalize hxe : p.getD j 0 = x at *
      generalize numL p j = z at *
      clear hx hxe
      have hz9 : z ≤ 479001600 := hnb
      obtain ⟨o', hA, hcells⟩ : ∃ o', (if cap = j + 1 then some (⟨b, off, none⟩ : Addr) else some ⟨b, off + (j + 1), none⟩) = some ⟨b, o', none⟩ ∧ Kp (∀ k (hk : j + 1 + k < p.length), w1.cell? ⟨b, o' + k, none⟩ = some (.int .i64 p[j + 1 + k])) := by
        by_cases hcj : cap = j + 1
        · exact ⟨off, by rw [if_pos hcj], ⟨fun k hk => by rw [HN.out] at hk; omega⟩⟩
        · refine ⟨off + (j + 1), by rw [if_neg hcj], ⟨fun k hk => ?_⟩⟩
          obtain ⟨b2, o2, hbe, hc⟩ := HS.out.at (j + 1 + k) hk
          simp only [Option.some.injEq, Addr.mk.injEq, and_true] at hbe
          obtain ⟨h1, h2⟩ := hbe
          subst h1
          subst h2
          rw [Nat.add_assoc]; exact hc
      obtain ⟨m, hm⟩ : ∃ m, m = n - (j + 1) := ⟨_, rfl⟩
      have hmn : m + j + 1 = n := by omega
      have HMN := Kp.mk hmn
      rw [show p.length - (j + 1) = m by rw [HN.out]; exact hm.symm] at hEND
      go_wp2
      go_loop [8, 31] (fun s i => ∃ k : Nat, k ≤ m ∧ i = .int .i64 k ∧ s = .int .i64 (lessK p j k : Nat)) (fun _ i => m - (intOf i).toNat)
      case atStart => exact ⟨0, Nat.zero_le _, rfl, by rw [lessK_zero]; rfl⟩
      case round =>
        obtain ⟨k, hk, rfl, rfl⟩ := hrel
        have hl9 := hlk k
        by_cases hlt2 : k < m
        · have hkp : j + 1 + k < p.length := by rw [HN.out]; omega
          have c2 := hcells.out k hkp
          have hsk := hSUC.out k hkp
          generalize p[j + 1 + k] = y at *
          generalize lessK p j k = u at *
          by_cases hyx : y < x
          · rw [if_pos hyx] at hsk
            have HSK := Kp.mk hsk
            clear hsk hlk
            go_wp2
            go_round
            case rel => exact ⟨k + 1, by omega, by go_num, by rw [HSK.out]; go_num⟩
            case measure => simp [intOf]; omega
          · rw [if_neg hyx] at hsk
            have HSK := Kp.mk hsk
            clear hsk hlk
            go_wp2
            go_round
            case rel => exact ⟨k + 1, by omega, by go_num, by rw [HSK.out]; rfl⟩
            case measure => simp [intOf]; omega
        · obtain rfl : k = m := by omega
          have e9 := hEND.out
          rw [e9] at hl9 ⊢
          generalize lessN p j = u at *
          have hmul : z * (n - j) ≤ 479001600 * 12 := Nat.mul_le_mul hz9 (by omega)
          have e7 : (z : Int) * ((n : Int) - (j : Int)) = ((z * (n - j) : Nat) : Int) := by push_cast [Int.ofNat_sub (show j ≤ n by omega)]; rfl
          generalize z * (n - j) = v at *
          clear e9 hlk
          go_wp2
          go_round
          case rel => exact ⟨j + 1, by omega, by go_num, by rw [hsu.out]; go_num⟩
          case measure => simp [intOf]; omega
    · obtain rfl : j = n := by omega
      go_wp2
      go_ret2
      exact ⟨rfl, HB.out⟩

end Go.Proofs.Ytjofajpcchncpaa

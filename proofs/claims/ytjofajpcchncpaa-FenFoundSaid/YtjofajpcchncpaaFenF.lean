/- Package fen: where sums come above a number. -/
import Derived.Test.YtjofajpcchncpaaFen
namespace Go.Proofs.Ytjofajpcchncpaa
set_option linter.unusedVariables false
open Go.RowKit

/-- What Find answers. -/
def Found (l : List Int) (n : Nat) (x : Int) (w : World) (e : Ending) (w' : World) : Prop :=
  w = w' ∧ ((pre l n ≤ x ∧ e = .returned (.tuple #[.int .i64 0, .int .i64 7])) ∨ ∃ i : Nat, i < n ∧ pre l i ≤ x ∧ x < pre l (i + 1) ∧ e = .returned (.tuple #[.int .i64 i, .int .i64 0]))

set_option maxHeartbeats 1000000 in
theorem ffind_any (a : Option Addr) (cap n : Nat) (x : Int) (l : List Int) (w : World) (h : SlI w a cap (treeOf l)) (hn : l.length = n) (hl : n ≤ 300) (M : Int) (hM0 : 0 ≤ M) (hM : M ≤ 1048576) (hb : ∀ x ∈ l, 0 ≤ x ∧ x ≤ M) (hx0 : 0 ≤ x) (hx1 : x ≤ 1000000000000) :
    Calls Try.prog 29 #[.slice a n cap, .int .i64 x] w (Found l n x w) := by
  have hb' : ∀ x ∈ l, -M ≤ x ∧ x ≤ M := fun x hx => by have := hb x hx; omega
  have CS := Kp.mk (fun i (hi : i ≤ n) => fsum_in a cap n i l w h hn hl hi M hM0 hM hb')
  have CM := Kp.mk (fmay_yes a cap n (treeOf l) w h (by rw [treeOf_length]; exact hn) hl (fun x hx => by have := tree_bd l M hM0 hb' (by omega) x hx; omega))
  have hP : ∀ k, k ≤ n → 0 ≤ pre l k ∧ pre l k ≤ M * 300 := fun k hk => by
    have h1 := pre_bd l M hb' k (by rw [hn]; exact hk) 0 (by omega)
    have h2 : M * ((k - 0 : Nat) : Int) ≤ M * 300 := Int.mul_le_mul_of_nonneg_left (by omega) hM0
    have h3 := pre_mono l (fun x hx => (hb x hx).1) 0 k (by omega) (by omega)
    rw [pre_zero] at h1 h3
    omega
  have HP := Kp.mk hP
  have HMO := Kp.mk (fun k (hk : k + 1 ≤ n) => pre_mono l (fun x hx => (hb x hx).1) k (k + 1) (by omega) (by omega))
  have H := Kp.mk h
  have HN := Kp.mk hn
  clear h hn hb hb' hP
  go_enter Try.func29, Try.ntmps29
  go_wp2_with fail
  refine CM.out.mono ?_
  rintro e w' ⟨rfl, rfl⟩
  go_wp2
  go_loop [14] (fun i => ∃ k : Nat, k ≤ n ∧ i = .int .i64 k) (fun i => n - (intOf i).toNat)
  case atStart => exact ⟨0, Nat.zero_le _, rfl⟩
  case round =>
    obtain ⟨k, hk, rfl⟩ := hrel
    by_cases hlt : k < n
    · have c1 := Kp.mk (CS.out (k + 1) (by omega))
      have c2 := Kp.mk (CS.out k (by omega))
      have hm := HMO.out k (by omega)
      have e1 : ((k + 1 : Nat) : Int) = (k : Int) + 1 := by push_cast; rfl
      rw [e1] at c1
      clear e1
      have hm2 : decide (pre l (k + 1) < pre l k) = false := decide_eq_false (by omega)
      generalize pre l (k + 1) = q1 at *
      generalize pre l k = q2 at *
      go_wp2_with fail
      refine c1.out.mono ?_
      rintro e w' ⟨rfl, rfl⟩
      go_wp2_with fail
      refine c2.out.mono ?_
      rintro e w' ⟨rfl, rfl⟩
      go_wp2
      go_round
      case rel => exact ⟨k + 1, by omega, by go_num⟩
      case measure => simp [intOf]; omega
    · clear CS CM HMO
      go_wp2
      have hx2 := Kp.mk (show pre l 0 ≤ x by rw [pre_zero]; exact hx0)
      go_loop [1, 7, 8] (fun v1 v7 v8 => ∃ (at' e s : Nat), e ≤ 10 ∧ s = 2 ^ e / 2 ∧ at' ≤ n ∧ at' % 2 ^ e = 0 ∧ v7 = .int .i64 at' ∧ v8 = .int .i64 s ∧ v1 = .int .i64 (x - pre l at') ∧ pre l at' ≤ x ∧ (n < at' + 2 ^ e ∨ x < pre l (at' + 2 ^ e))) (fun _ _ v => (intOf v).toNat)
      case atStart => exact ⟨0, 10, 512, by omega, rfl, Nat.zero_le _, rfl, rfl, rfl, by rw [pre_zero]; simp, hx2.out, .inl (by omega)⟩
      case round =>
        obtain ⟨p, e, s, he, hs, hpn, hpe, rfl, rfl, rfl, hpx, hor⟩ := hrel
        by_cases h0 : e = 0
        · subst h0
          have hs0 : s = 0 := hs
          subst hs0
          have HPX := Kp.mk hpx
          have HOR := Kp.mk hor
          have hp1 := HP.out p hpn
          clear hpx hor hs hpe H
          generalize hpp : pre l p = pp at *
          have HPP := Kp.mk hpp
          clear hpp
          by_cases hpn2 : p = n
          · have t1 : ((p : Int) == n) = true := by simp [hpn2]
            have HPN := Kp.mk hpn2
            clear hpn2
            go_wp2
            go_ret2
            exact ⟨rfl, .inl ⟨by rw [← HPN.out, HPP.out]; exact HPX.out, rfl⟩⟩
          · have t1 : ((p : Int) == n) = false := beq_eq_false_iff_ne.2 (by omega)
            go_wp2
            go_ret2
            refine ⟨rfl, .inr ⟨p, by omega, by rw [HPP.out]; exact HPX.out, ?_, rfl⟩⟩
            rcases HOR.out with h | h
            · rw [Nat.pow_zero] at h; omega
            · exact h
        · obtain ⟨d, rfl⟩ : ∃ d, e = d + 1 := ⟨e - 1, by omega⟩
          have hs2 : s = 2 ^ d := by rw [hs, Nat.pow_succ]; omega
          have hsp : 0 < 2 ^ d := Nat.pow_pos (by omega)
          have hsl : 2 ^ d ≤ 2 ^ 9 := Nat.pow_le_pow_right (by omega) (by omega)
          have hg := gN_step p d (by omega) (by omega) hpe
          have hpe2 : p % 2 ^ d = 0 := by
            have h1 := Nat.mod_mod_of_dvd p (show 2 ^ d ∣ 2 ^ (d + 1) from Nat.pow_dvd_pow 2 (by omega))
            rw [hpe] at h1; simpa using h1.symm
          have hpe3 : (p + 2 ^ d) % 2 ^ d = 0 := by rw [Nat.add_mod_right]; exact hpe2
          have hdbl : 2 ^ (d + 1) = 2 ^ d + 2 ^ d := by rw [Nat.pow_succ]; omega
          rw [hdbl] at hor
          clear hs hdbl hpe
          have hp1 := HP.out p hpn
          by_cases hq : p + s ≤ n
          · have hkl : p + s - 1 < (treeOf l).length := by rw [treeOf_length, HN.out]; omega
            obtain ⟨b, off, rfl, c1⟩ := H.out.at (p + s - 1) hkl
            rw [treeOf_get] at c1
            have hf : fenF l (p + s - 1) = pre l (p + s) - pre l p := by
              have h1 := sum_step l (p + s) (by omega)
              rw [show gN (p + s - 1) = p by rw [hs2]; exact hg] at h1
              omega
            rw [hf] at c1
            have hp2 := HP.out (p + s) hq
            have hto : ((p : Int) + (s : Int) - 1).toNat = p + s - 1 := by omega
            have HPE := Kp.mk hpe2
            have HPE3 := Kp.mk hpe3
            have HS2 := Kp.mk hs2
            rw [← hs2] at hor hsl hsp
            have HOR := Kp.mk hor
            have HPX := Kp.mk hpx
            clear hf hkl hpe2 hpe3 hs2 hor hpx hg
            generalize hpp : pre l p = pp at *
            have HPP := Kp.mk hpp
            clear hpp
            generalize hqq : pre l (p + s) = qq at *
            have HQQ := Kp.mk hqq
            clear hqq
            by_cases hle : qq ≤ x
            · have t1 : decide (qq - pp ≤ x - pp) = true := decide_eq_true (by omega)
              go_wp2
              go_round
              case rel =>
                refine ⟨p + s, d, s / 2, by omega, by rw [← HS2.out], hq, by rw [HS2.out]; exact HPE3.out, by go_num, by go_num, ?_, by rw [HQQ.out]; exact hle, ?_⟩
                · rw [HQQ.out]; congr 1; omega
                · rw [← HS2.out, Nat.add_assoc]; exact HOR.out
              case measure => simp [intOf]; omega
            · have t1 : decide (qq - pp ≤ x - pp) = false := decide_eq_false (by omega)
              go_wp2
              go_round
              case rel =>
                refine ⟨p, d, s / 2, by omega, by rw [← HS2.out], hpn, HPE.out, rfl, by go_num, by rw [HPP.out], by rw [HPP.out]; exact HPX.out, ?_⟩
                right
                rw [← HS2.out, HQQ.out]; omega
              case measure => simp [intOf]; omega
          · have HPE := Kp.mk hpe2
            have HS2 := Kp.mk hs2
            rw [← hs2] at hsl hsp
            have HPX := Kp.mk hpx
            clear hpe2 hpe3 hs2 hor hpx hg H
            generalize hpp : pre l p = pp at *
            have HPP := Kp.mk hpp
            clear hpp
            go_wp2
            go_round
            case rel =>
              refine ⟨p, d, s / 2, by omega, by rw [← HS2.out], hpn, HPE.out, rfl, by go_num, by rw [HPP.out], by rw [HPP.out]; exact HPX.out, ?_⟩
              left
              rw [← HS2.out]; omega
            case measure => simp [intOf]; omega

end Go.Proofs.Ytjofajpcchncpaa

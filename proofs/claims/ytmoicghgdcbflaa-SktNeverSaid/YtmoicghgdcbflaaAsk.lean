/- Package skt: a key is asked; the walk of SktNever. -/
import Derived.Test.YtmoicghgdcbflaaSktM
import Derived.Test.YtmoicghgdcbflaaNum
namespace Go.Proofs.Ytmoicghgdcbflaa
set_option linter.unusedVariables false
open Go.RowKit

/-- The least of what the first r rows say of a key. -/
def askN (ks : List Nat) (k : Nat) : Nat → Nat
  | 0 => 1048576
  | r + 1 => min (askN ks k r) (cntK ks r (placeN r k) ks.length)
theorem askN_zero (ks : List Nat) (k : Nat) : askN ks k 0 = 1048576 := rfl
theorem askN_succ (ks : List Nat) (k r : Nat) : askN ks k (r + 1) = min (askN ks k r) (cntK ks r (placeN r k) ks.length) := rfl
theorem askN_le (ks : List Nat) (k r : Nat) : askN ks k r ≤ 1048576 := by
  induction r with
  | zero => exact Nat.le_refl _
  | succ r ih => rw [askN_succ]; omega
theorem askN_len (ks : List Nat) (k r : Nat) (h : 0 < r) : askN ks k r ≤ ks.length := by
  cases r with
  | zero => omega
  | succ r =>
    rw [askN_succ]
    have := cntK_le ks r (placeN r k) ks.length
    omega
/-- How often a key stands among the first j. -/
def keyN (ks : List Nat) (k j : Nat) : Nat := (ks.take j).countP fun x => x == k
theorem keyN_zero (ks : List Nat) (k : Nat) : keyN ks k 0 = 0 := by simp [keyN]
theorem keyN_succ (ks : List Nat) (k j : Nat) (h : j < ks.length) : keyN ks k (j + 1) = keyN ks k j + if ks[j] = k then 1 else 0 := by
  unfold keyN
  rw [List.take_succ_eq_append_getElem h, List.countP_append]
  simp
theorem keyN_le (ks : List Nat) (k j : Nat) : keyN ks k j ≤ j := Nat.le_trans List.countP_le_length (List.length_take_le _ _)
theorem key_cnt (ks : List Nat) (k r : Nat) : keyN ks k ks.length ≤ cntK ks r (placeN r k) ks.length := by
  have h : ∀ j, j ≤ ks.length → keyN ks k j ≤ cntK ks r (placeN r k) j := by
    intro j
    induction j with
    | zero => intro _; rw [keyN_zero]; exact Nat.zero_le _
    | succ j ih =>
      intro hj
      have ih := ih (by omega)
      rw [keyN_succ ks k j hj, cntK_succ ks r _ j hj]
      by_cases hk : ks[j] = k
      · rw [if_pos hk, if_pos (by rw [hk])]; omega
      · rw [if_neg hk]
        split <;> omega
  exact h _ (Nat.le_refl _)
theorem key_ask (ks : List Nat) (k r : Nat) (h : ks.length ≤ 300) : keyN ks k ks.length ≤ askN ks k r := by
  induction r with
  | zero => have := keyN_le ks k ks.length; rw [askN_zero]; omega
  | succ r ih =>
    have := key_cnt ks k r
    rw [askN_succ]; omega
theorem askN_mono (ks : List Nat) (k r : Nat) : askN ks k (r + 1) ≤ askN ks k r := by rw [askN_succ]; omega
attribute [irreducible] askN keyN

set_option maxHeartbeats 1000000 in
theorem ask_any (a : Option Addr) (cap R k : Nat) (ks : List Nat) (w : World) (h : RowsI w a R cap (skL ks R)) (h0 : 1 ≤ R) (h8 : R ≤ 8) (hk : k ≤ 1048576) (hl : ks.length ≤ 300) :
    Calls Try.prog 36 #[.slice a R cap, .int .i64 k] w fun e w' => e = .returned (.tuple #[.int .i64 (askN ks k R : Nat), .int .i64 0]) ∧ w = w' := by
  have CM := Kp.mk (smay_yes a cap R _ w h h0 h8 (skL_sketch ks R hl))
  have CF := Kp.mk (sfits_yes k w (by omega) (by omega))
  have H := Kp.mk h
  clear h
  go_enter Try.func36, Try.ntmps36
  go_wp2_with fail
  refine CM.out.mono ?_
  rintro e w' ⟨rfl, rfl⟩
  go_wp2_with fail
  refine CF.out.mono ?_
  rintro e w' ⟨rfl, rfl⟩
  go_wp2
  go_loop [6, 19] (fun v i => ∃ r : Nat, r ≤ R ∧ i = .int .i64 r ∧ v = .int .i64 (askN ks k r : Nat)) (fun _ i => R - (intOf i).toNat)
  case atStart => exact ⟨0, Nat.zero_le _, rfl, by rw [askN_zero]; rfl⟩
  case round =>
    obtain ⟨r, hr, rfl, rfl⟩ := hrel
    have hal := askN_le ks k r
    by_cases hlt : r < R
    · obtain ⟨b, off, ra, rc, rfl, c1, hS⟩ := H.out.at r (by rw [skL_length]; exact hlt)
      rw [skL_get] at hS
      have e1 : ((skL ks R)[r]'(by rw [skL_length]; exact hlt)).length = 64 := by rw [skL_get, skRow_length]
      rw [e1] at c1
      have hp := placeN_lt r k
      obtain ⟨b2, off2, rfl, c2⟩ := hS.at (placeN r k) (by rw [skRow_length]; exact hp)
      rw [skRow_get] at c2
      have hsu := Kp.mk (askN_succ ks k r)
      have hcl := cntK_le ks r (placeN r k) ks.length
      have CP := Kp.mk (place_any r k w (by omega) hk)
      clear hS e1
      generalize cntK ks r (placeN r k) ks.length = y at *
      generalize placeN r k = p at *
      generalize askN ks k r = z at *
      go_wp2_with fail
      refine CP.out.mono ?_
      rintro e w' ⟨rfl, rfl⟩
      go_wp2
      go_round
      case rel => exact ⟨r + 1, by omega, by go_num, by rw [hsu.out]; go_num⟩
      case measure => simp [intOf]; omega
    · obtain rfl : r = R := by omega
      go_wp2
      go_ret2
      exact ⟨rfl, rfl⟩

end Go.Proofs.Ytmoicghgdcbflaa

/- No code begins another one: plain facts. -/
import Derived.Test.YtjofajpcchncpaaGamE
namespace Go.Proofs.Ytjofajpcchncpaa
set_option linter.unusedVariables false

theorem binP_get (n K j r : Nat) (h : r < j) : (binP n K j)[r]? = some (bitB n (K - 1 - r)) := by
  unfold binP; simp [h]
theorem gamL_def (n : Nat) : gamL n = List.replicate (Lib.bitLen n - 1) false ++ binP n (Lib.bitLen n) (Lib.bitLen n) := by unfold gamL; rfl
theorem delL_def (n : Nat) : delL n = gamL (Lib.bitLen n) ++ binP n (Lib.bitLen n - 1) (Lib.bitLen n - 1) := by unfold delL; rfl
theorem top_bit (n : Nat) (h : 0 < n) (h2 : n < 2 ^ 64) : bitB n (Lib.bitLen n - 1) = true := by
  have h3 := bitLen_lt n h2
  have h4 := bitLen_pred n (by omega)
  have h5 := bitLen_pos n h h2
  obtain ⟨m, hm⟩ : ∃ m, Lib.bitLen n = m + 1 := ⟨Lib.bitLen n - 1, by omega⟩
  rw [hm] at h3 h4 ⊢
  rw [Nat.add_sub_cancel] at h4 ⊢
  rw [Nat.pow_succ] at h3
  have h6 : n / 2 ^ m = 1 := by
    apply Nat.div_eq_of_lt_le <;> omega
  unfold bitB
  rw [h6]
  rfl
theorem bits_inj (m n K : Nat) (hm : m < 2 ^ K) (hn : n < 2 ^ K) (h : ∀ r, r < K → bitB m r = bitB n r) : m = n := by
  apply Nat.eq_of_testBit_eq
  intro i
  by_cases hi : i < K
  · rw [← bitB_test, ← bitB_test]; exact h i hi
  · have : 2 ^ K ≤ 2 ^ i := Nat.pow_le_pow_right (by omega) (by omega)
    rw [Nat.testBit_lt_two_pow (by omega), Nat.testBit_lt_two_pow (by omega)]
theorem bin_inj (m n K j : Nat) (h : binP m K j = binP n K j) (r : Nat) (h1 : K - j ≤ r) (h2 : r < K) : bitB m r = bitB n r := by
  have h3 := congrArg (fun l => l[K - 1 - r]?) h
  change (binP m K j)[K - 1 - r]? = (binP n K j)[K - 1 - r]? at h3
  rw [binP_get _ _ _ _ (by omega), binP_get _ _ _ _ (by omega)] at h3
  simp only [Option.some.injEq] at h3
  rwa [show K - 1 - (K - 1 - r) = r by omega] at h3
theorem bitLen_mono (m n : Nat) (h : m ≤ n) (hm : 0 < m) (h2 : n < 2 ^ 64) : Lib.bitLen m ≤ Lib.bitLen n := by
  have h3 := bitLen_lt n h2
  have h4 := bitLen_pred m (by omega)
  have h5 : 2 ^ (Lib.bitLen m - 1) < 2 ^ Lib.bitLen n := by omega
  have := (Nat.pow_lt_pow_iff_right (show 1 < 2 by omega)).1 h5
  omega
theorem prefix_append {x y z : List Bool} (h : x.length ≤ y.length) (hp : ∀ i, i < x.length → x[i]? = (y ++ z)[i]?) : ∀ i, i < x.length → x[i]? = y[i]? := by
  intro i hi
  rw [hp i hi, List.getElem?_append_left (by omega)]

theorem pf_gam (m n : Nat) (hm : 0 < m) (hmn : m ≤ n) (h2 : n < 2 ^ 64) (h : ∀ i, i < (gamL m).length → (gamL m)[i]? = (gamL n)[i]?) : m = n := by
  have hb := bitLen_mono m n hmn hm h2
  have hp := bitLen_pos m hm (by omega)
  have hq := bitLen_pos n (by omega) h2
  have hl := gamL_length m hm (by omega)
  by_cases he : Lib.bitLen m = Lib.bitLen n
  · have hl2 := gamL_length n (by omega) h2
    have e : gamL m = gamL n := by
      apply List.ext_getElem?
      intro i
      by_cases hi : i < (gamL m).length
      · exact h i hi
      · rw [List.getElem?_eq_none (by omega), List.getElem?_eq_none (by rw [hl2, ← he, ← hl]; omega)]
    rw [gamL_def, gamL_def, ← he] at e
    have e2 := List.append_cancel_left e
    refine bits_inj m n (Lib.bitLen m) (bitLen_lt m (by omega)) (by rw [he]; exact bitLen_lt n h2) (fun r hr => bin_inj _ _ _ _ e2 r (by omega) hr)
  · exfalso
    have h1 := h (Lib.bitLen m - 1) (by rw [hl]; omega)
    rw [gamL_def, gamL_def, List.getElem?_append_right (by simp), List.getElem?_append_left (by simp; omega)] at h1
    simp only [List.length_replicate, Nat.sub_self] at h1
    rw [binP_get _ _ _ _ (by omega), Nat.sub_zero, top_bit m hm (by omega)] at h1
    simp [show Lib.bitLen m - 1 < Lib.bitLen n - 1 by omega] at h1
theorem pf_del (m n : Nat) (hm : 0 < m) (hmn : m ≤ n) (h2 : n < 2 ^ 64) (h : ∀ i, i < (delL m).length → (delL m)[i]? = (delL n)[i]?) : m = n := by
  have hb := bitLen_mono m n hmn hm h2
  have hp := bitLen_pos m hm (by omega)
  have hq := bitLen_pos n (by omega) h2
  have hb64 := Lib.bitLen_le n 64 (by omega) h2
  have hlg : (gamL (Lib.bitLen m)).length ≤ (gamL (Lib.bitLen n)).length := by
    rw [gamL_length _ hp (by omega), gamL_length _ hq (by omega)]
    have := bitLen_mono _ _ hb hp (by omega)
    omega
  have he : Lib.bitLen m = Lib.bitLen n := by
    refine pf_gam _ _ hp hb (by omega) (fun i hi => ?_)
    have h1 := h i (by rw [delL_def, List.length_append]; omega)
    rw [delL_def, delL_def, List.getElem?_append_left hi, List.getElem?_append_left (by omega)] at h1
    exact h1
  have e : delL m = delL n := by
    apply List.ext_getElem?
    intro i
    by_cases hi : i < (delL m).length
    · exact h i hi
    · have hl : (delL m).length = (delL n).length := by rw [delL_def, delL_def, List.length_append, List.length_append, he, binP_length, binP_length]
      rw [List.getElem?_eq_none (by omega), List.getElem?_eq_none (by omega)]
  rw [delL_def, delL_def, ← he] at e
  have e2 := List.append_cancel_left e
  refine bits_inj m n (Lib.bitLen m) (bitLen_lt m (by omega)) (by rw [he]; exact bitLen_lt n h2) (fun r hr => ?_)
  by_cases hr2 : r < Lib.bitLen m - 1
  · exact bin_inj _ _ _ _ e2 r (by omega) hr2
  · obtain rfl : r = Lib.bitLen m - 1 := by omega
    rw [top_bit m hm (by omega), he, top_bit n (by omega) h2]
theorem pf_code (k m n : Nat) (hm : 0 < m) (hmn : m ≤ n) (h2 : n < 2 ^ 64) (h : ∀ i, i < (codeL k m).length → (codeL k m)[i]? = (codeL k n)[i]?) : m = n := by
  unfold codeL at h
  split at h
  · exact pf_del m n hm hmn h2 h
  · exact pf_gam m n hm hmn h2 h
theorem len_code (k m n : Nat) (hm : 0 < m) (hmn : m ≤ n) (h2 : n ≤ 1048576) : 1 ≤ (codeL k m).length ∧ (codeL k m).length ≤ (codeL k n).length ∧ (codeL k n).length ≤ 41 := by
  have hb := bitLen_mono m n hmn hm (by omega)
  have hp := bitLen_pos m hm (by omega)
  have hq := bitLen_pos n (by omega) (by omega)
  have hb21 := Lib.bitLen_le n 21 (by omega) (by omega)
  have hbb := bitLen_mono _ _ hb hp (by omega)
  have hbp := bitLen_pos _ hp (by omega)
  have h5 := Lib.bitLen_le (Lib.bitLen n) 5 (by omega) (by omega)
  unfold codeL
  split
  · rw [delL_length m hm (by omega), delL_length n (by omega) (by omega)]; omega
  · rw [gamL_length m hm (by omega), gamL_length n (by omega) (by omega)]; omega
end Go.Proofs.Ytjofajpcchncpaa

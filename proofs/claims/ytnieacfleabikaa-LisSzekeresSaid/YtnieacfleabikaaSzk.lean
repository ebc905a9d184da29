/- The walk of LisSzekeres. -/
import Derived.Test.YtnieacfleabikaaRsng
import Derived.Test.YtnieacfleabikaaNum
namespace Go.Proofs.Ytnieacfleabikaa
set_option linter.unusedVariables false
open Go.RowKit

/-- The longest of the first i piles. -/
def lon (ps : List (List Nat)) : Nat → Nat
  | 0 => 0
  | i + 1 => max (lon ps i) (ps.getD i []).length
theorem lon_ge (ps : List (List Nat)) (i j : Nat) (h : j < i) : (ps.getD j []).length ≤ lon ps i := by
  induction i with
  | zero => omega
  | succ i ih =>
    by_cases e : j = i
    · subst e; exact Nat.le_max_right _ _
    · exact Nat.le_trans (ih (by omega)) (Nat.le_max_left _ _)
theorem lon_le (ps : List (List Nat)) (i n : Nat) (h : ∀ p ∈ ps, p.length ≤ n) (hi : i ≤ ps.length) : lon ps i ≤ n := by
  induction i with
  | zero => exact Nat.zero_le _
  | succ i ih =>
    refine Nat.max_le.2 ⟨ih (by omega), ?_⟩
    rw [getD_at _ _ (by omega)]
    exact h _ (List.getElem_mem _)
theorem sum_le (ps : List (List Nat)) (b : Nat) (h : ∀ p ∈ ps, p.length ≤ b) : (ps.map List.length).sum ≤ ps.length * b := by
  induction ps with
  | nil => simp
  | cons p ps ih =>
    have h1 := h p (List.mem_cons_self ..)
    have h2 := ih (fun q hq => h q (List.mem_cons_of_mem _ hq))
    simp only [List.map_cons, List.sum_cons, List.length_cons, Nat.succ_mul]
    omega
theorem szk (l : List Int) (n : Nat) : n ≤ (pilesK l n).length * lon (pilesK l n) (pilesK l n).length := by
  have h := sum_le (pilesK l n) (lon (pilesK l n) (pilesK l n).length) (fun p hp => by
    obtain ⟨j, hj, rfl⟩ := List.mem_iff_getElem.1 hp
    have := lon_ge (pilesK l n) _ j hj
    rwa [getD_at _ _ hj] at this)
  rw [(piles_inv l n).sum] at h
  exact h
theorem szk_or (n r L k : Nat) (h : n + 1 ≤ r * L) (hk : r ≤ k) (hk0 : 0 < k) : n / k < L := by
  apply Classical.byContradiction
  intro hc
  have h1 := Nat.mul_le_mul hk (show L ≤ n / k by omega)
  have h2 := Nat.mul_div_le n k
  omega
attribute [irreducible] lon

set_option maxRecDepth 100000 in
set_option maxHeartbeats 1000000 in
theorem walk_LisSzekeres (a0 : Option Addr) (len0 cap0 : Nat) (z0 : List Int) (a1 : Int) (w : World) (w0 : IsRow .i64 w a0 len0 cap0 z0) (w1 : (Lit.int .i64 a1).wf = true) :
    Calls Try.prog 6 #[.slice a0 len0 cap0, .int .i64 a1] w fun e w' => e = .returned (.bool true) ∧ Below w.heap.size w w' := by
  obtain ⟨l, rfl, hl, wl, nl⟩ := row_sl w0
  obtain ⟨c1, c2⟩ := wf_bd w1
  unfold maxLen at nl
  have HL := Kp.mk hl
  have WL := Kp.mk wl
  obtain ⟨m, hm⟩ : ∃ m, m = (nums l 100 1000).length := ⟨_, rfl⟩
  have hm100 : m ≤ 100 := by rw [hm, nums_length]; omega
  obtain ⟨i, hi, il⟩ := pick_nat a1 ((m : Int) + 2) (by omega)
  have HI := Kp.mk hi
  have HM := Kp.mk hm
  clear w0 w1 hl wl hi hm
  go_enter Try.func6, Try.ntmps6
  go_wp2_with fail
  refine (numbers_any a0 cap0 100 1000 l w HL.out (by omega) (by omega) (by omega) (by omega) WL.out).mono ?_
  rintro e w1 ⟨na, nc, rfl, hO, hb⟩
  unfold OwnI at hO
  rw [← HM.out] at hO ⊢
  have HO := Kp.mk hO
  have HB := Kp.mk hb
  have hsz := Kp.mk hb.size
  clear hO hb
  go_wp2_with (at_builtin; refine wpList_push tInts rfl _ _ rfl w.heap.size na m nc _ rfl HO.out 2 2 _ rfl rfl ?c1 (by decide) ?c2 (by decide) hsz.out ?c4)
  case c1 => simp [Value.oneCell']
  case c2 => omega
  case c4 =>
    intro sa sc w2 hown hbel
    have HB2 := Kp.mk (HB.out.trans hbel)
    have HN := Kp.mk (show SlI w2 sa sc (nums l 100 1000 ++ [4, 5]) from by
      exact own_sl_len (l := nums l 100 1000 ++ [4, 5]) (by rw [ints_append]; exact hown) (by rw [List.length_append, ← HM.out]; rfl))
    have HNL := Kp.mk (show (nums l 100 1000 ++ [4, 5]).length = m + 2 by rw [List.length_append, ← HM.out]; rfl)
    clear hown hbel HO HM
    generalize nums l 100 1000 ++ [4, 5] = N at *
    go_wp2_with fail
    refine (rising_any sa sc (m + 2) N w2 HN.out HNL.out (by omega) (by omega)).mono ?_
    rintro e w3 ⟨ra, rc, r, fa, fc, rfl, HR, _, HF, hb3⟩
    have HB3 := Kp.mk (HB2.out.trans (hb3.mono (by have := HB2.out.size; omega)))
    have hr : r ≤ m + 2 := by rw [← HR.out]; exact pilesK_len _ _
    have HS := Kp.mk (szk N (m + 2))
    have hll := Kp.mk (fun i (hi : i ≤ r) => lon_le (pilesK N (m + 2)) i (m + 2) (fun p hp => by have := mem_len hp; rw [(piles_inv N (m + 2)).sum] at this; exact this) (by rw [HR.out]; exact hi))
    rw [HR.out] at HS
    clear hb3
    go_wp2
    go_loopw [9, 10] (fun x y wr => ∃ j : Nat, j ≤ r ∧ x = .int .i64 (lon (pilesK N (m + 2)) j) ∧ y = .int .i64 j ∧ Below w3.heap.size w3 wr) (fun _ y _ => r - (intOf y).toNat)
    case atStart => exact ⟨0, Nat.zero_le _, by unfold lon; rfl, rfl, Below.refl _ _⟩
    case round =>
      obtain ⟨j, hj, rfl, rfl, hbr⟩ := hrel
      have hlj := hll.out j hj
      by_cases hlt : j < r
      · have hjl : j < (pilesK N (m + 2)).length := by rw [HR.out]; exact hlt
        obtain ⟨b, off, qa, qc, rfl, cj, _⟩ := (HF.out.below hbr).at j (by simpa using hjl)
        have e1 : (List.map nts (pilesK N (m + 2)))[j]'(by simpa using hjl) = nts ((pilesK N (m + 2)).getD j []) := by rw [getD_at _ _ hjl]; simp
        rw [e1, nts_length] at cj
        have HLS := Kp.mk (show lon (pilesK N (m + 2)) (j + 1) = max (lon (pilesK N (m + 2)) j) ((pilesK N (m + 2)).getD j []).length by conv => lhs; unfold lon)
        have hlj1 := hll.out (j + 1) (by omega)
        have hlen : ((pilesK N (m + 2)).getD j []).length ≤ m + 2 := by have := HLS.out; omega
        clear e1
        generalize ((pilesK N (m + 2)).getD j []).length = q at *
        generalize lon (pilesK N (m + 2)) j = x at *
        go_wp2
        all_goals
          go_roundw
          case rel => exact ⟨j + 1, by omega, by first | (rw [HLS.out]; congr 1; omega) | (rw [HLS.out]; go_num), by go_num, by assumption⟩
          case measure => simp [intOf]; omega
      · obtain rfl : j = r := by omega
        generalize lon (pilesK N (m + 2)) j = L at *
        go_wp2_with fail
        refine (picked_any a1 ((m : Int) + 2) _ (by omega) (by omega) c1 c2).mono ?_
        rintro e w' ⟨rfl, rfl⟩
        rw [HI.out]
        obtain ⟨k, hk⟩ : ∃ k, k = 1 + i := ⟨_, rfl⟩
        have hik : (1 : Int) + i = k := by omega
        have hk0 : 0 < k := by omega
        have hpm := Nat.mul_le_mul hr hlj
        obtain ⟨p, hp⟩ : ∃ p, p = j * L := ⟨_, rfl⟩
        have hpz : (j : Int) * L = p := by rw [hp]; simp
        obtain ⟨d, hd⟩ : ∃ d, d = (m + 1) / k := ⟨_, rfl⟩
        have hdz : ((m : Int) + 1) / k = d := by rw [hd]; simp
        have hdm : d ≤ m + 1 := by rw [hd]; exact Nat.div_le_self _ _
        have hsz := HS.out
        rw [← hp] at hsz hpm
        have hpb : p ≤ 20000 := Nat.le_trans hpm (by
          have := Nat.mul_le_mul (show m + 2 ≤ 102 by omega) (show m + 2 ≤ 102 by omega)
          omega)
        have hor : j ≤ k → d < L := fun h => by
          rw [hd]; exact szk_or (m + 1) j L k (by rw [← hp]; omega) h hk0
        have HP := Kp.mk hp
        have HD := Kp.mk hd
        have HBR := Kp.mk (HB3.out.trans (hbr.mono (by have := HB3.out.size; omega)))
        have hpz1 : (m : Int) + 2 ≤ p := by omega
        clear hp hd hk hpm hbr HS hll HF HR hsz
        by_cases hc : j ≤ k
        · have hdl := hor hc
          clear hor
          go_wp2
          go_ret
          exact ⟨ret_bool (by simp only [show (m : Int) + 2 - 1 = (m : Int) + 1 by omega, hdz, Bool.or_eq_true, decide_eq_true_eq]; omega), HBR.out⟩
        · clear hor
          go_wp2
          go_ret
          exact ⟨rfl, HBR.out⟩

end Go.Proofs.Ytnieacfleabikaa

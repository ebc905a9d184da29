/- slices.Reverse on a slice of int of the caller's own. -/
import Derived.Test.YtlmdlholmlbcbaaKeep
namespace Go.Proofs.Ytlmdlholmlbcbaa
set_option linter.unusedVariables false
open Go.RowKit

/-- The first k and the last k exchanged. -/
def revK (l : List Int) (k : Nat) : List Int := (List.range l.length).map fun i => if i < k ∨ l.length - k ≤ i then l.getD (l.length - 1 - i) 0 else l.getD i 0
theorem revK_length (l : List Int) (k : Nat) : (revK l k).length = l.length := by simp [revK]
theorem revK_zero (l : List Int) : revK l 0 = l := by
  apply List.ext_getElem
  · simp [revK]
  · intro i h1 h2
    simp only [revK, List.getElem_map, List.getElem_range]
    rw [if_neg (by omega), getD_at _ _ h2]
theorem revK_half (l : List Int) (k : Nat) (h : l.length ≤ 2 * k + 1) : revK l k = l.reverse := by
  apply List.ext_getElem
  · simp [revK]
  · intro i h1 h2
    have hi : i < l.length := by simpa [revK] using h1
    simp only [revK, List.getElem_map, List.getElem_range, List.getElem_reverse]
    by_cases hc : i < k ∨ l.length - k ≤ i
    · rw [if_pos hc, getD_at _ _ (by omega)]
    · rw [if_neg hc, getD_at _ _ hi]
      congr 1; omega
theorem revK_at (l : List Int) (k i : Nat) (h : k ≤ i) (h2 : i + k < l.length) : (revK l k).getD i 0 = l.getD i 0 := by
  rw [getD_at _ _ (by rw [revK_length]; omega)]
  simp only [revK, List.getElem_map, List.getElem_range]
  rw [if_neg (by omega)]
theorem revK_swap (l : List Int) (k : Nat) (h : 2 * k + 1 < l.length) :
    (((revK l k).set k ((revK l k).getD (l.length - 1 - k) 0)).set (l.length - 1 - k) ((revK l k).getD k 0)) = revK l (k + 1) := by
  rw [revK_at l k k (Nat.le_refl _) (by omega), revK_at l k (l.length - 1 - k) (by omega) (by omega)]
  apply List.ext_getElem
  · simp [revK]
  · intro i h1 h2
    have hi : i < l.length := by rw [revK_length] at h2; exact h2
    rw [List.getElem_set, List.getElem_set]
    by_cases e1 : l.length - 1 - k = i
    · rw [if_pos e1]
      simp only [revK, List.getElem_map, List.getElem_range]
      rw [if_pos (by omega)]
      congr 1; omega
    · rw [if_neg e1]
      by_cases e2 : k = i
      · rw [if_pos e2]
        simp only [revK, List.getElem_map, List.getElem_range]
        rw [if_pos (by omega), e2]
      · rw [if_neg e2]
        simp only [revK, List.getElem_map, List.getElem_range]
        by_cases hc : i < k ∨ l.length - k ≤ i
        · rw [if_pos hc, if_pos (by omega)]
        · rw [if_neg hc, if_neg (by omega)]

theorem rev_cell {w : World} {B e g n cap k : Nat} {o : List Int} (h : w.ownsRow B e 1 (.slice (some ⟨g, 0, none⟩) n cap) n (ints o)) (hl : o.length = n) (hk : k < n) :
    w.cell? ⟨g, k, none⟩ = some (.int .i64 (o.getD k 0)) := by
  rw [h.cellAt k (by omega), List.getElem?_eq_getElem (by rw [ints_length]; omega), ints_get, getD_at _ _ (by omega)]
theorem rev_own {w : World} {B g n cap k q : Nat} {o : List Int} {x y : Int} (h : w.ownsRow B 3 1 (.slice (some ⟨g, 0, none⟩) n cap) n (ints o)) :
    ((w.setCell ⟨g, k, none⟩ (.int .i64 x)).setCell ⟨g, q, none⟩ (.int .i64 y)).drew.ownsRow B 3 1 (.slice (some ⟨g, 0, none⟩) n cap) n (ints ((o.set k x).set q y)) := by
  have h1 := (h.stored k (.int .i64 x)).1
  rw [ints_set] at h1
  have h2 := (h1.stored q (.int .i64 y)).1
  rw [ints_set] at h2
  exact h2
theorem rev_grown (w : World) (g k q : Nat) (x y : Value) : w.grownBy ((w.setCell ⟨g, k, none⟩ x).setCell ⟨g, q, none⟩ y).drew (some g) :=
  grown_drew (grown_trans (grown_set w g k x) (grown_set _ g q y))

set_option maxRecDepth 100000 in
set_option maxHeartbeats 1000000 in
theorem reverse_any (B : Nat) (a : Option Addr) (n cap : Nat) (l : List Int) (w : World) (h : w.ownsRow B 3 1 (.slice a n cap) n (ints l)) (hn : n ≤ 1000000) :
    Calls Try.prog 93 #[.slice a n cap] w (fun e w' => e = .returned (.tuple #[]) ∧ w'.ownsRow B 3 1 (.slice a n cap) n (ints l.reverse) ∧ w.grownBy w' (blk a)) := by
  have hl : l.length = n := by have := h.1; rw [ints_length, Nat.mul_one] at this; exact this
  have H := Kp.mk h
  have HL := Kp.mk hl
  clear h hl
  go_enter Try.func93, Try.ntmps93
  go_wp2
  go_loopw [2, 3] (fun i j wr => ∃ k : Nat, 2 * k ≤ n ∧ i = .int .i64 k ∧ j = .int .i64 ((n : Int) - 1 - k) ∧ wr.ownsRow B 3 1 (.slice a n cap) n (ints (revK l k)) ∧ w.grownBy wr (blk a)) (fun i _ _ => n - (intOf i).toNat)
  case atStart => exact ⟨0, Nat.zero_le _, rfl, by simp, by rw [revK_zero]; exact H.out, grown_refl _ _⟩
  case round =>
    obtain ⟨k, hk, rfl, rfl, hown, hgr⟩ := hrel
    by_cases hlt : 2 * k + 1 < n
    · have HS := Kp.mk (revK_swap l k (by rw [HL.out]; exact hlt))
      have hrl := revK_length l k
      rw [HL.out] at hrl
      obtain ⟨g, rfl, hg, hg2⟩ := own_some hown (by omega)
      obtain ⟨q, hq⟩ : ∃ q : Nat, n - 1 - k = q := ⟨_, rfl⟩
      have hqz : (n : Int) - 1 - k = q := by omega
      rw [hqz]
      have c1 := rev_cell (k := k) hown hrl (by omega)
      have c2 := rev_cell (k := q) hown hrl (by omega)
      have f1 := hown.frozenAt k
      have f2 := hown.frozenAt q
      have hO := Kp.mk hown
      have HQ := Kp.mk hqz
      rw [HL.out, hq] at HS
      have hqn : q < n := by omega
      have hkq : k < q := by omega
      clear hown hq hqz hrl
      generalize revK l k = o at *
      generalize o.getD k 0 = x at *
      generalize o.getD q 0 = y at *
      obtain ⟨v2, hv2⟩ := cell?_setCell_some (w := wr) (p := ⟨g, k, none⟩) (x := .int .i64 y) (q := ⟨g, q, none⟩) (v := .int .i64 y) c2
      go_wp2
      go_region
      go_wp2
      go_roundw
      case rel => exact ⟨k + 1, by omega, by go_num, by rw [show ((n : Int) - 1 - ((k + 1 : Nat) : Int)) = q - 1 by have := HQ.out; omega], by rw [← HS.out]; exact rev_own hO.out, grown_trans hgr (rev_grown wr g k q _ _)⟩
      case measure => simp [intOf]; omega
    · have hfin := Kp.mk (revK_half l k (by rw [HL.out]; omega))
      have hge : ¬ ((k : Int) < (n : Int) - 1 - k) := by omega
      go_wp2
      go_end0
      exact ⟨rfl, by rw [← hfin.out]; exact hown, hgr⟩

end Go.Proofs.Ytlmdlholmlbcbaa

/- Plain facts on sketches. -/
import Derived.Test.YtjofajpcchncpaaHdr
namespace Go.Proofs.Ytjofajpcchncpaa
set_option linter.unusedVariables false

def placeN (r k : Nat) : Nat := ((2 * r + 1) * k + 40 * r + 7 + k / 64 * (r + 3)) % 64
theorem placeN_lt (r k : Nat) : placeN r k < 64 := Nat.mod_lt _ (by decide)
/-- How many of the first j keys stand in column c of row r. -/
def cntK (ks : List Nat) (r c j : Nat) : Nat := (ks.take j).countP fun k => placeN r k == c
theorem cntK_zero (ks : List Nat) (r c : Nat) : cntK ks r c 0 = 0 := by simp [cntK]
theorem cntK_succ (ks : List Nat) (r c j : Nat) (h : j < ks.length) : cntK ks r c (j + 1) = cntK ks r c j + if placeN r ks[j] = c then 1 else 0 := by
  unfold cntK
  rw [List.take_succ_eq_append_getElem h, List.countP_append]
  simp
theorem cntK_le (ks : List Nat) (r c j : Nat) : cntK ks r c j ≤ j := Nat.le_trans List.countP_le_length (List.length_take_le _ _)
def skRow (ks : List Nat) (r j : Nat) : List Int := (List.range 64).map fun c => ((cntK ks r c j : Nat) : Int)
theorem skRow_length (ks : List Nat) (r j : Nat) : (skRow ks r j).length = 64 := by simp [skRow]
theorem skRow_get (ks : List Nat) (r j c : Nat) (h : c < (skRow ks r j).length) : (skRow ks r j)[c] = ((cntK ks r c j : Nat) : Int) := by simp [skRow]
theorem skRow_zero (ks : List Nat) (r : Nat) : ints (skRow ks r 0) = List.replicate 64 (.int .i64 0) := by
  apply List.ext_getElem
  · simp [ints, skRow]
  · intro i h1 h2
    rw [List.getElem_replicate, ints_get, ← show (skRow ks r 0)[i]'(by rw [ints_length] at h1; exact h1) = 0 by simp only [skRow, List.getElem_map, cntK_zero]; rfl]
theorem skRow_succ (ks : List Nat) (r j : Nat) (h : j < ks.length) : skRow ks r (j + 1) = (skRow ks r j).set (placeN r ks[j]) (((cntK ks r (placeN r ks[j]) j : Nat) : Int) + 1) := by
  apply List.ext_getElem
  · simp [skRow]
  · intro c h1 h2
    rw [List.getElem_set, skRow_get, skRow_get, cntK_succ ks r c j h]
    by_cases hc : placeN r ks[j] = c
    · rw [if_pos hc, if_pos hc, hc]; push_cast; rfl
    · rw [if_neg hc, if_neg hc]; rfl
def skL (ks : List Nat) (rows : Nat) : List (List Int) := (List.range rows).map fun r => skRow ks r ks.length
theorem skL_length (ks : List Nat) (rows : Nat) : (skL ks rows).length = rows := by simp [skL]
theorem skL_get (ks : List Nat) (rows r : Nat) (h : r < (skL ks rows).length) : (skL ks rows)[r] = skRow ks r ks.length := by simp [skL]
theorem skL_succ (ks : List Nat) (r : Nat) : skL ks (r + 1) = skL ks r ++ [skRow ks r ks.length] := by simp [skL, List.range_succ]
theorem cntK_full (ks : List Nat) (r c : Nat) : cntK ks r c ks.length = ks.countP fun k => placeN r k == c := by unfold cntK; rw [List.take_of_length_le (Nat.le_refl _)]
theorem skRow_eq {p q : List Nat} (r : Nat) (h : ∀ c, cntK p r c p.length = cntK q r c q.length) : skRow p r p.length = skRow q r q.length := by
  unfold skRow
  exact List.map_congr_left fun c _ => by rw [h c]
theorem skL_perm {p q : List Nat} (h : p.Perm q) (n : Nat) : skL p n = skL q n := by
  unfold skL
  exact List.map_congr_left fun r _ => skRow_eq r fun c => by rw [cntK_full, cntK_full, h.countP_eq]
theorem cntK_append (p q : List Nat) (r c : Nat) : cntK (p ++ q) r c (p ++ q).length = cntK p r c p.length + cntK q r c q.length := by
  rw [cntK_full, cntK_full, cntK_full, List.countP_append]
/-- Turned round by t. -/
def rotN (l : List Nat) (t i : Nat) : List Nat := (List.range i).map fun j => l.getD ((j + t) % l.length) 0
theorem rotN_length (l : List Nat) (t i : Nat) : (rotN l t i).length = i := by simp [rotN]
theorem rotN_succ (l : List Nat) (t i : Nat) : rotN l t (i + 1) = rotN l t i ++ [l.getD ((i + t) % l.length) 0] := by simp [rotN, List.range_succ]
theorem rotN_zero (l : List Nat) (t : Nat) : rotN l t 0 = [] := rfl
theorem rotN_perm (l : List Nat) (t : Nat) (ht : t < l.length) : (rotN l t l.length).Perm l := by
  have e : rotN l t l.length = l.drop t ++ l.take t := by
    apply List.ext_getElem
    · rw [rotN_length, List.length_append, List.length_drop, List.length_take]; omega
    · intro i h1 h2
      have hi : i < l.length := by rw [rotN_length] at h1; exact h1
      simp only [rotN, List.getElem_map, List.getElem_range]
      by_cases hc : i < l.length - t
      · rw [List.getElem_append_left (by rw [List.length_drop]; exact hc), List.getElem_drop, Nat.mod_eq_of_lt (by omega), getD_at _ _ (by omega)]
        congr 1; omega
      · rw [List.getElem_append_right (by rw [List.length_drop]; omega), List.getElem_take, Nat.mod_eq_sub_mod (by omega), Nat.mod_eq_of_lt (by omega), getD_at _ _ (by omega)]
        congr 1; rw [List.length_drop]; omega
  rw [e]
  exact (List.perm_append_comm).trans (by rw [List.take_append_drop])
attribute [irreducible] placeN cntK skRow skL rotN
end Go.Proofs.Ytjofajpcchncpaa

/- Plain facts on sketches. -/
import Derived.Test.YtmoicghgdcbflaaHdr
namespace Go.Proofs.Ytmoicghgdcbflaa
set_option linter.unusedVariables false

def placeN (r k : Nat) : Nat := ((2 * r + 1) * k + 40 * r + 7 + k / 64 * (r + 3)) % 64
theorem placeN_lt (r k : Nat) : placeN r k < 64 := Nat.mod_lt _ (by decide)
/-- How many of the first j keys stand in column c of row r. -/
def cntK (ks : List Nat) (r c j : Nat) : Nat := (ks.take j).countP fun k => placeN r k == c
theorem cntK_zero (ks : List Nat) (r c : Nat) : cntK ks r c 0 = 0 := by simp [cntK]
theorem cntK_succ (ks : List Nat) (r c j : Nat) (h : j < ks.length) : cntK ks r c (j + 1) = cntK ks r c j + if placeN r ks[j] = c then 1 else 0 := by
  unfold cntK
  rw [List.take_succ_eq_append_getElem h, List.countP_append]
  simp
theorem cntK_le (ks : List Nat) (r c j : Nat) : cntK ks r c j ≤ j := Nat.le_trans List.countP_le_length (List.length_take_le _ _)
def skRow (ks : List Nat) (r j : Nat) : List Int := (List.range 64).map fun c => ((cntK ks r c j : Nat) : Int)
theorem skRow_length (ks : List Nat) (r j : Nat) : (skRow ks r j).length = 64 := by simp [skRow]
theorem skRow_get (ks : List Nat) (r j c : Nat) (h : c < (skRow ks r j).length) : (skRow ks r j)[c] = ((cntK ks r c j : Nat) : Int) := by simp [skRow]
theorem skRow_zero (ks : List Nat) (r : Nat) : ints (skRow ks r 0) = List.replicate 64 (.int .i64 0) := by
  apply List.ext_getElem
  · simp [ints, skRow]
  · intro i h1 h2
    rw [List.getElem_replicate, ints_get, ← show (skRow ks r 0)[i]'(by rw [ints_length] at h1; exact h1) = 0 by simp only [skRow, List.getElem_map, cntK_zero]; rfl]
theorem skRow_succ (ks : List Nat) (r j : Nat) (h : j < ks.length) : skRow ks r (j + 1) = (skRow ks r j).set (placeN r ks[j]) (((cntK ks r (placeN r ks[j]) j : Nat) : Int) + 1) := by
  apply List.ext_getElem
  · simp [skRow]
  · intro c h1 h2
    rw [List.getElem_set, skRow_get, skRow_get, cntK_succ ks r c j h]
    by_cases hc : placeN r ks[j] = c
    · rw [if_pos hc, if_pos hc, hc]; push_cast; rfl
    · rw [if_neg hc, if_neg hc]; rfl
def skL (ks : List Nat) (rows : Nat) : List (List Int) := (List.range rows).map fun r => skRow ks r ks.length
theorem skL_length (ks : List Nat) (rows : Nat) : (skL ks rows).length = rows := by simp [skL]
theorem skL_get (ks : List Nat) (rows r : Nat) (h : r < (skL ks rows).length) : (skL ks rows)[r] = skRow ks r ks.length := by simp [skL]
theorem skL_succ (ks : List Nat) (r : Nat) : skL ks (r + 1) = skL ks r ++ [skRow ks r ks.length] := by simp [skL, List.range_succ]
attribute [irreducible] placeN cntK skRow skL
end Go.Proofs.Ytmoicghgdcbflaa

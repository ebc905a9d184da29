/- Plain facts on codes of places. -/
import Derived.Test.YtnieacfleabikaaTurnP
namespace Go.Proofs.Ytnieacfleabikaa
set_option linter.unusedVariables false

/-- Parts of h bits, each with a gap of h bits behind it. -/
def spr (h : Nat) : Nat → Nat → Nat
  | 0, _ => 0
  | n + 1, x => x % 2 ^ h + 2 ^ (h + h) * spr h n (x / 2 ^ h)
/-- Every second bit. -/
def ev : Nat → Nat → Nat
  | 0, _ => 0
  | n + 1, x => x % 2 + 2 * ev n (x / 4)

theorem spr_sq (h n x : Nat) : spr h n x ≤ x * x := by
  induction n generalizing x with
  | zero => simp [spr]
  | succ n ih =>
    have ih := ih (x / 2 ^ h)
    have hx := Nat.mod_add_div x (2 ^ h)
    simp only [spr]
    generalize x % 2 ^ h = r at *
    generalize x / 2 ^ h = q at *
    rw [Nat.pow_add]
    generalize 2 ^ h = P at *
    rw [← hx]
    have h1 : P * P * spr h n q ≤ P * P * (q * q) := Nat.mul_le_mul_left _ ih
    have h2 : r ≤ r * r := by
      cases r with
      | zero => omega
      | succ r => rw [Nat.mul_succ]; omega
    have e : (r + P * q) * (r + P * q) = r * r + 2 * (r * (P * q)) + P * P * (q * q) := by
      rw [Nat.add_mul, Nat.mul_add, Nat.mul_add, Nat.mul_comm (P * q) r, show P * q * (P * q) = P * P * (q * q) by rw [Nat.mul_assoc, Nat.mul_assoc, Nat.mul_left_comm q P q]]
      omega
    rw [e]
    omega

theorem or_mod (a b k : Nat) : (a ||| b) % 2 ^ k = a % 2 ^ k ||| b % 2 ^ k := Nat.or_mod_two_pow
theorem or_div (a b k : Nat) : (a ||| b) / 2 ^ k = a / 2 ^ k ||| b / 2 ^ k := Nat.or_div_two_pow

/-- Gaps made half as wide. -/
theorem spr_step (g n x y : Nat) (hy : y = spr (g + g) n x) : ((y ||| (y * 2 ^ g)) &&& mk g (n + n)) = spr g (n + n) x := by
  have hp : 0 < 2 ^ g := Nat.pow_pos (by omega)
  induction n generalizing x y with
  | zero => simp [mk, spr]
  | succ n ih =>
    have ih := ih (x / 2 ^ (g + g)) _ rfl
    generalize hY : spr (g + g) n (x / 2 ^ (g + g)) = Y at *
    have hv : x % 2 ^ (g + g) < 2 ^ (g + g) := Nat.mod_lt _ (Nat.pow_pos (by omega))
    have hyv : y = x % 2 ^ (g + g) + 2 ^ (g + g + (g + g)) * Y := by rw [hy, ← hY]; rfl
    have hlo : x % 2 ^ (g + g) % 2 ^ g = x % 2 ^ g := by rw [Nat.pow_add, Nat.mod_mul_right_mod]
    have hhi : x % 2 ^ (g + g) / 2 ^ g = x / 2 ^ g % 2 ^ g := by rw [Nat.pow_add, Nat.mod_mul_right_div_self]
    have e : spr g (n + 1 + (n + 1)) x = x % 2 ^ g + 2 ^ (g + g) * (x / 2 ^ g % 2 ^ g + 2 ^ (g + g) * spr g (n + n) (x / 2 ^ g / 2 ^ g)) := by
      rw [show n + 1 + (n + 1) = (n + n) + 1 + 1 by omega]; rfl
    rw [Nat.div_div_eq_div_mul, ← Nat.pow_add] at e
    rw [e, ← ih, show n + 1 + (n + 1) = (n + n) + 1 + 1 by omega]
    simp only [mk]
    rw [and_low, and_low, or_mod, or_div, or_mod]
    generalize x % 2 ^ (g + g) = v at *
    have hW : 2 ^ (g + g) = 2 ^ g * 2 ^ g := Nat.pow_add ..
    have hV : 2 ^ (g + g + (g + g)) = 2 ^ g * 2 ^ g * (2 ^ g * 2 ^ g) := by rw [Nat.pow_add, Nat.pow_add]
    have f1 : y % 2 ^ g = x % 2 ^ g := by
      rw [hyv, hV, show 2 ^ g * 2 ^ g * (2 ^ g * 2 ^ g) * Y = 2 ^ g * (2 ^ g * (2 ^ g * 2 ^ g) * Y) by simp only [Nat.mul_assoc], Nat.add_mul_mod_self_left, hlo]
    have f2 : y * 2 ^ g % 2 ^ g = 0 := Nat.mul_mod_left _ _
    have f3 : y / 2 ^ (g + g) % 2 ^ g = 0 := by
      rw [hyv, Nat.pow_add 2 (g + g) (g + g), Nat.mul_assoc, Nat.add_mul_div_left _ _ (Nat.pow_pos (by omega)), Nat.div_eq_of_lt hv, Nat.zero_add, hW, Nat.mul_assoc, Nat.mul_mod_right]
    have f4 : y * 2 ^ g / 2 ^ (g + g) % 2 ^ g = x / 2 ^ g % 2 ^ g := by
      rw [hW, Nat.mul_div_mul_right _ _ hp, hyv, hV, show 2 ^ g * 2 ^ g * (2 ^ g * 2 ^ g) * Y = 2 ^ g * (2 ^ g * (2 ^ g * 2 ^ g * Y)) by simp only [Nat.mul_assoc], Nat.add_mul_div_left _ _ hp, Nat.add_mul_mod_self_left, hhi, Nat.mod_mod]
    have f5 : (y / 2 ^ (g + g) / 2 ^ (g + g) ||| y * 2 ^ g / 2 ^ (g + g) / 2 ^ (g + g)) = Y ||| Y * 2 ^ g := by
      rw [Nat.div_div_eq_div_mul, Nat.div_div_eq_div_mul, ← Nat.pow_add]
      congr 1
      · rw [hyv, Nat.add_mul_div_left _ _ (Nat.pow_pos (by omega)), Nat.div_eq_of_lt, Nat.zero_add]
        exact Nat.lt_of_lt_of_le hv (Nat.pow_le_pow_right (by omega) (by omega))
      · rw [hyv, Nat.add_mul, Nat.mul_assoc, Nat.add_mul_div_left _ _ (Nat.pow_pos (by omega)), Nat.div_eq_of_lt, Nat.zero_add]
        have : v * 2 ^ g < 2 ^ (g + g) * 2 ^ g := Nat.mul_lt_mul_of_pos_right hv hp
        rw [← Nat.pow_add] at this
        exact Nat.lt_of_lt_of_le this (Nat.pow_le_pow_right (by omega) (by omega))
    rw [f1, f2, f3, or_div, f4, f5]
    simp

/-- Gaps made twice as wide. -/
theorem gat_step (g n x y : Nat) (hy : y = spr g (n + n) x) : ((y ||| (y / 2 ^ g)) &&& mk (g + g) n) = spr (g + g) n x := by
  have hp : 0 < 2 ^ g := Nat.pow_pos (by omega)
  induction n generalizing x y with
  | zero => simp [mk, spr]
  | succ n ih =>
    have ih := ih (x / 2 ^ (g + g)) _ rfl
    have e : spr g (n + 1 + (n + 1)) x = x % 2 ^ g + 2 ^ (g + g) * (x / 2 ^ g % 2 ^ g + 2 ^ (g + g) * spr g (n + n) (x / 2 ^ g / 2 ^ g)) := by
      rw [show n + 1 + (n + 1) = (n + n) + 1 + 1 by omega]; rfl
    rw [Nat.div_div_eq_div_mul, ← Nat.pow_add] at e
    rw [e] at hy
    generalize hY : spr g (n + n) (x / 2 ^ (g + g)) = Y at *
    have hlo : x % 2 ^ g < 2 ^ g := Nat.mod_lt _ hp
    have hhi : x / 2 ^ g % 2 ^ g < 2 ^ g := Nat.mod_lt _ hp
    have hx : x % 2 ^ (g + g) = x % 2 ^ g + 2 ^ g * (x / 2 ^ g % 2 ^ g) := by rw [Nat.pow_add, Nat.mod_mul]
    simp only [mk, spr]
    rw [and_low, or_mod, hx, ← ih]
    generalize x % 2 ^ g = lo at *
    generalize x / 2 ^ g % 2 ^ g = hi at *
    have hW : 2 ^ (g + g) = 2 ^ g * 2 ^ g := Nat.pow_add ..
    have hle : 2 ^ g ≤ 2 ^ g * 2 ^ g := Nat.le_mul_of_pos_left _ hp
    have f1 : y % 2 ^ (g + g) = lo := by rw [hy, Nat.add_mul_mod_self_left, Nat.mod_eq_of_lt (by rw [hW]; omega)]
    have f2 : y / 2 ^ g = 2 ^ g * (hi + 2 ^ (g + g) * Y) := by
      rw [hy, hW, Nat.mul_assoc, Nat.add_mul_div_left _ _ hp, Nat.div_eq_of_lt hlo, Nat.zero_add]
    have f3 : y / 2 ^ g % 2 ^ (g + g) = 2 ^ g * hi := by
      rw [f2, hW, Nat.mul_mod_mul_left, Nat.mul_assoc, Nat.add_mul_mod_self_left, Nat.mod_eq_of_lt hhi]
    have f4 : lo ||| 2 ^ g * hi = lo + 2 ^ g * hi := by
      have := Nat.two_pow_add_eq_or_of_lt hlo hi
      rw [Nat.or_comm, ← this]; omega
    have f5 : (y ||| y / 2 ^ g) / 2 ^ (g + g + (g + g)) = Y ||| Y / 2 ^ g := by
      have hd : y / 2 ^ (g + g + (g + g)) = Y := by
        rw [hy, Nat.mul_add, ← Nat.mul_assoc, ← Nat.pow_add, ← Nat.add_assoc, Nat.add_mul_div_left _ _ (Nat.pow_pos (by omega)), Nat.div_eq_of_lt, Nat.zero_add]
        rw [Nat.pow_add 2 (g + g) (g + g), hW]
        have : 2 ^ g * 2 ^ g * (hi + 1) ≤ 2 ^ g * 2 ^ g * 2 ^ g := Nat.mul_le_mul_left _ hhi
        have h3 : 2 ^ g * 2 ^ g * 2 ^ g ≤ 2 ^ g * 2 ^ g * (2 ^ g * 2 ^ g) := Nat.mul_le_mul_left _ hle
        rw [Nat.mul_add] at this
        omega
      rw [or_div, hd, Nat.div_div_eq_div_mul, Nat.mul_comm (2 ^ g), ← Nat.div_div_eq_div_mul, hd]
    rw [f1, f3, f4, f5]

theorem spr_whole (n x : Nat) (h : x < 2 ^ n) : spr n 1 x = x := by
  simp only [spr, Nat.mul_zero, Nat.add_zero]
  exact Nat.mod_eq_of_lt h
theorem ev_and (n a : Nat) : a &&& mk 1 n = spr 1 n (ev n a) := by
  induction n generalizing a with
  | zero => simp [mk, spr]
  | succ n ih =>
    simp only [mk, spr, ev]
    rw [and_low, ih]
    simp only [Nat.pow_one, Nat.reduceAdd, Nat.reducePow]
    have h1 : (a % 2 + 2 * ev n (a / 4)) % 2 = a % 2 := by omega
    have h2 : (a % 2 + 2 * ev n (a / 4)) / 2 = ev n (a / 4) := by omega
    rw [h1, h2]

/-- The bits of both, in turn. -/
def cod (x y : Nat) : Nat := spr 1 32 x + 2 * spr 1 32 y
theorem spr_one (n x : Nat) : spr 1 (n + 1) x = x % 2 + 4 * spr 1 n (x / 2) := by
  simp [spr]
theorem ev_cod (n x y : Nat) (hx : x < 2 ^ n) : ev n (spr 1 n x + 2 * spr 1 n y) = x := by
  induction n generalizing x y with
  | zero => simp [ev]; omega
  | succ n ih =>
    rw [Nat.pow_succ] at hx
    rw [spr_one, spr_one]
    have h := ih (x / 2) (y / 2) (by omega)
    simp only [ev]
    have h1 : (x % 2 + 4 * spr 1 n (x / 2) + 2 * (y % 2 + 4 * spr 1 n (y / 2))) % 2 = x % 2 := by omega
    have h2 : (x % 2 + 4 * spr 1 n (x / 2) + 2 * (y % 2 + 4 * spr 1 n (y / 2))) / 4 = spr 1 n (x / 2) + 2 * spr 1 n (y / 2) := by omega
    rw [h1, h2, h]
    omega
theorem ev_half (n x y : Nat) (hy : y < 2 ^ n) : ev n ((spr 1 n x + 2 * spr 1 n y) / 2) = y := by
  induction n generalizing x y with
  | zero => simp [ev]; omega
  | succ n ih =>
    rw [Nat.pow_succ] at hy
    rw [spr_one, spr_one]
    have h := ih (x / 2) (y / 2) (by omega)
    simp only [ev]
    have h1 : (x % 2 + 4 * spr 1 n (x / 2) + 2 * (y % 2 + 4 * spr 1 n (y / 2))) / 2 % 2 = y % 2 := by omega
    have h2 : (x % 2 + 4 * spr 1 n (x / 2) + 2 * (y % 2 + 4 * spr 1 n (y / 2))) / 2 / 4 = (spr 1 n (x / 2) + 2 * spr 1 n (y / 2)) / 2 := by omega
    rw [h1, h2, h]
    omega
theorem spr_lt (n x y : Nat) (hy : y < 2 ^ n) (h : x < y) : spr 1 n x < spr 1 n y := by
  induction n generalizing x y with
  | zero => omega
  | succ n ih =>
    rw [Nat.pow_succ] at hy
    rw [spr_one, spr_one]
    by_cases he : x / 2 = y / 2
    · rw [he]; omega
    · have := ih (x / 2) (y / 2) (by omega) (by omega)
      omega
theorem spr_le (n x y : Nat) (hy : y < 2 ^ n) (h : x ≤ y) : spr 1 n x ≤ spr 1 n y := by
  rcases Nat.lt_or_eq_of_le h with h | h
  · exact Nat.le_of_lt (spr_lt n x y hy h)
  · rw [h]; exact Nat.le_refl _
/-- Bits that lie in turn do not meet. -/
theorem or_cod (n x y : Nat) : spr 1 n x ||| (spr 1 n y * 2) = spr 1 n x + 2 * spr 1 n y := by
  induction n generalizing x y with
  | zero => simp [spr]
  | succ n ih =>
    rw [spr_one, spr_one]
    have h := ih (x / 2) (y / 2)
    have h1 := or_mod (x % 2 + 4 * spr 1 n (x / 2)) ((y % 2 + 4 * spr 1 n (y / 2)) * 2) 2
    have h2 := or_div (x % 2 + 4 * spr 1 n (x / 2)) ((y % 2 + 4 * spr 1 n (y / 2)) * 2) 2
    simp only [Nat.reducePow] at h1 h2
    rw [show (x % 2 + 4 * spr 1 n (x / 2)) % 4 = x % 2 by omega, show (y % 2 + 4 * spr 1 n (y / 2)) * 2 % 4 = y % 2 * 2 by omega] at h1
    rw [show (x % 2 + 4 * spr 1 n (x / 2)) / 4 = spr 1 n (x / 2) by omega, show (y % 2 + 4 * spr 1 n (y / 2)) * 2 / 4 = spr 1 n (y / 2) * 2 by omega, h] at h2
    have h3 : x % 2 ||| y % 2 * 2 = x % 2 + y % 2 * 2 := by
      rcases Nat.mod_two_eq_zero_or_one x with hx | hx <;> rcases Nat.mod_two_eq_zero_or_one y with hy | hy <;> rw [hx, hy] <;> rfl
    omega
theorem cod_eq (x y : Nat) : cod x y = spr 1 32 x + 2 * spr 1 32 y := rfl
theorem cod_le (x y x' y' : Nat) (hx : x ≤ x') (hy : y ≤ y') (h1 : x' < 4294967296) (h2 : y' < 4294967296) : cod x y ≤ cod x' y' := by
  have a := spr_le 32 x x' h1 hx
  have b := spr_le 32 y y' h2 hy
  rw [cod_eq, cod_eq]; omega
theorem cod_one : cod 0 1 = 2 := by decide
attribute [irreducible] spr ev cod

end Go.Proofs.Ytnieacfleabikaa

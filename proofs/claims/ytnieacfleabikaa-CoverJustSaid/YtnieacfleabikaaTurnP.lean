/- Plain facts on words that are turned. -/
import Derived.Test.YtnieacfleabikaaPopP
namespace Go.Proofs.Ytnieacfleabikaa
set_option linter.unusedVariables false

/-- The lowest n bits, the other way round. -/
def revn : Nat → Nat → Nat
  | 0, _ => 0
  | n + 1, x => x % 2 * 2 ^ n + revn n (x / 2)
theorem revn_lt (n x : Nat) : revn n x < 2 ^ n := by
  induction n generalizing x with
  | zero => simp [revn]
  | succ n ih =>
    have := ih (x / 2)
    have h2 := Nat.mod_two_eq_zero_or_one x
    simp only [revn, Nat.pow_succ]
    rcases h2 with h | h <;> rw [h] <;> omega
theorem revn_add (n m x : Nat) : revn (n + m) x = revn n x * 2 ^ m + revn m (x / 2 ^ n) := by
  induction n generalizing x with
  | zero => simp [revn]
  | succ n ih =>
    rw [show n + 1 + m = (n + m) + 1 by omega]
    simp only [revn]
    rw [ih (x / 2), Nat.div_div_eq_div_mul, show 2 * 2 ^ n = 2 ^ (n + 1) by rw [Nat.pow_succ, Nat.mul_comm], Nat.pow_add, Nat.add_mul, Nat.mul_assoc, Nat.add_assoc]
theorem revn_mod (n x : Nat) : revn n (x % 2 ^ n) = revn n x := by
  induction n generalizing x with
  | zero => rfl
  | succ n ih =>
    have h1 : x % 2 ^ (n + 1) % 2 = x % 2 := by rw [Nat.pow_succ, Nat.mul_comm, Nat.mod_mul_right_mod]
    have h2 : x % 2 ^ (n + 1) / 2 = x / 2 % 2 ^ n := by rw [Nat.pow_succ, Nat.mul_comm, Nat.mod_mul_right_div_self]
    simp only [revn, h1, h2, ih]
/-- The last bit of what is turned comes ahead. -/
theorem revn_snoc (n x : Nat) : revn (n + 1) x = revn n x * 2 + x / 2 ^ n % 2 := by
  rw [revn_add n 1 x]; simp [revn]
theorem revn_revn (n x : Nat) (h : x < 2 ^ n) : revn n (revn n x) = x := by
  induction n generalizing x with
  | zero => simp [revn]; omega
  | succ n ih =>
    have hp : 0 < 2 ^ n := Nat.pow_pos (by omega)
    rw [Nat.pow_succ] at h
    have e : revn (n + 1) (revn (n + 1) x) = (revn (n + 1) x) % 2 * 2 ^ n + revn n (revn (n + 1) x / 2) := rfl
    rw [e, revn_snoc n x]
    have h1 : (revn n x * 2 + x / 2 ^ n % 2) % 2 = x / 2 ^ n % 2 := by omega
    have h2 : (revn n x * 2 + x / 2 ^ n % 2) / 2 = revn n x := by omega
    have h3 : x / 2 ^ n < 2 := Nat.div_lt_of_lt_mul h
    rw [h1, h2, ← revn_mod n x, ih (x % 2 ^ n) (Nat.mod_lt _ hp), Nat.mod_eq_of_lt h3]
    have := Nat.div_add_mod x (2 ^ n)
    rw [Nat.mul_comm] at this
    exact this
theorem pcn_revn (n x : Nat) : pcn n (revn n x) = pcn n x := by
  induction n generalizing x with
  | zero => simp [revn, pcn_none]
  | succ n ih =>
    rw [revn_snoc]
    have h1 : (revn n x * 2 + x / 2 ^ n % 2) % 2 = x / 2 ^ n % 2 := by omega
    have h2 : (revn n x * 2 + x / 2 ^ n % 2) / 2 = revn n x := by omega
    have e : ∀ y, pcn (n + 1) y = y % 2 + pcn n (y / 2) := fun y => by
      have := pcn_add 1 n y
      rw [pcn_one] at this
      rw [show n + 1 = 1 + n by omega, this, Nat.pow_one]
    rw [e, h1, h2, ih, pcn_add n 1 x, pcn_one]
    omega
theorem revn_one (x : Nat) : revn 1 x = x % 2 := by simp [revn]
set_option maxRecDepth 10000 in
theorem revn64_one : revn 64 1 = 9223372036854775808 := by decide +kernel
attribute [irreducible] revn

/-- The lowest k of what is turned are the uppermost ones. -/
theorem pcn_turned (k x : Nat) (hk : k ≤ 64) : pcn k (revn 64 x) + pcn (64 - k) x = pcn 64 x := by
  have h1 := revn_add (64 - k) k x
  have h2 := pcn_add (64 - k) k x
  rw [show 64 - k + k = 64 by omega] at h1 h2
  rw [h2, h1, ← pcn_mod k k _ (Nat.le_refl _), Nat.add_comm (revn (64 - k) x * 2 ^ k), Nat.add_mul_mod_self_right, pcn_mod k k _ (Nat.le_refl _), pcn_revn]
  omega

/-- A mask: of n pairs of h bits the lower ones. -/
def mk (h : Nat) : Nat → Nat
  | 0 => 0
  | n + 1 => (2 ^ h - 1) + 2 ^ (h + h) * mk h n
/-- In each of n pairs of h bits the two exchanged. -/
def sl (h : Nat) : Nat → Nat → Nat
  | 0, _ => 0
  | n + 1, x => x / 2 ^ h % 2 ^ h + x % 2 ^ h * 2 ^ h + 2 ^ (h + h) * sl h n (x / 2 ^ (h + h))
/-- Each of n parts of h bits turned. -/
def rl (h : Nat) : Nat → Nat → Nat
  | 0, _ => 0
  | n + 1, x => revn h (x % 2 ^ h) + 2 ^ h * rl h n (x / 2 ^ h)

theorem and_low (h : Nat) (a m : Nat) : a &&& ((2 ^ h - 1) + 2 ^ (h + h) * m) = a % 2 ^ h + 2 ^ (h + h) * (a / 2 ^ (h + h) &&& m) := by
  have hp : 0 < 2 ^ h := Nat.pow_pos (by omega)
  have hle : 2 ^ h ≤ 2 ^ (h + h) := Nat.pow_le_pow_right (by omega) (by omega)
  have h1 : (a &&& ((2 ^ h - 1) + 2 ^ (h + h) * m)) % 2 ^ (h + h) = a % 2 ^ (h + h) &&& ((2 ^ h - 1) + 2 ^ (h + h) * m) % 2 ^ (h + h) := Nat.and_mod_two_pow
  have h2 : (a &&& ((2 ^ h - 1) + 2 ^ (h + h) * m)) / 2 ^ (h + h) = a / 2 ^ (h + h) &&& ((2 ^ h - 1) + 2 ^ (h + h) * m) / 2 ^ (h + h) := Nat.and_div_two_pow
  have e1 : ((2 ^ h - 1) + 2 ^ (h + h) * m) % 2 ^ (h + h) = 2 ^ h - 1 := by rw [Nat.add_mul_mod_self_left, Nat.mod_eq_of_lt (by omega)]
  have e2 : ((2 ^ h - 1) + 2 ^ (h + h) * m) / 2 ^ (h + h) = m := by rw [Nat.add_mul_div_left _ _ (by omega), Nat.div_eq_of_lt (by omega)]; omega
  rw [e1, Nat.and_two_pow_sub_one_eq_mod, Nat.pow_add, Nat.mod_mul_right_mod] at h1
  rw [e2] at h2
  have := Nat.mod_add_div (a &&& ((2 ^ h - 1) + 2 ^ (h + h) * m)) (2 ^ (h + h))
  rw [h2] at this
  rw [← this, Nat.pow_add, h1]

theorem or_pair (h a b c d : Nat) (ha : a < 2 ^ h) (hb : b < 2 ^ h) : (a + 2 ^ (h + h) * c) ||| (b * 2 ^ h + 2 ^ (h + h) * d) = (a + b * 2 ^ h) + 2 ^ (h + h) * (c ||| d) := by
  have hp : 0 < 2 ^ h := Nat.pow_pos (by omega)
  have hW : 2 ^ (h + h) = 2 ^ h * 2 ^ h := Nat.pow_add ..
  have hbW : b * 2 ^ h + 2 ^ h ≤ 2 ^ (h + h) := by
    rw [hW]
    have : (b + 1) * 2 ^ h ≤ 2 ^ h * 2 ^ h := Nat.mul_le_mul_right _ hb
    rw [Nat.add_mul] at this; omega
  have haW : a < 2 ^ (h + h) := Nat.lt_of_lt_of_le ha (Nat.pow_le_pow_right (by omega) (by omega))
  have hbW2 : b * 2 ^ h < 2 ^ (h + h) := Nat.lt_of_lt_of_le (Nat.lt_add_of_pos_right hp) hbW
  have hWp : 0 < 2 ^ (h + h) := Nat.pow_pos (by omega)
  have h1 : ((a + 2 ^ (h + h) * c) ||| (b * 2 ^ h + 2 ^ (h + h) * d)) % 2 ^ (h + h) = (a + 2 ^ (h + h) * c) % 2 ^ (h + h) ||| (b * 2 ^ h + 2 ^ (h + h) * d) % 2 ^ (h + h) := Nat.or_mod_two_pow
  have h2 : ((a + 2 ^ (h + h) * c) ||| (b * 2 ^ h + 2 ^ (h + h) * d)) / 2 ^ (h + h) = (a + 2 ^ (h + h) * c) / 2 ^ (h + h) ||| (b * 2 ^ h + 2 ^ (h + h) * d) / 2 ^ (h + h) := Nat.or_div_two_pow
  rw [Nat.add_mul_mod_self_left, Nat.add_mul_mod_self_left, Nat.mod_eq_of_lt haW, Nat.mod_eq_of_lt hbW2] at h1
  rw [Nat.add_mul_div_left _ _ hWp, Nat.add_mul_div_left _ _ hWp, Nat.div_eq_of_lt haW, Nat.div_eq_of_lt hbW2, Nat.zero_add, Nat.zero_add] at h2
  have h3 : a ||| b * 2 ^ h = a + b * 2 ^ h := by
    have := Nat.two_pow_add_eq_or_of_lt ha b
    rw [Nat.or_comm, Nat.mul_comm b, ← this]; omega
  have := Nat.mod_add_div ((a + 2 ^ (h + h) * c) ||| (b * 2 ^ h + 2 ^ (h + h) * d)) (2 ^ (h + h))
  rw [← this, h1, h2, h3]

theorem sl_eq (h n x : Nat) : (x / 2 ^ h &&& mk h n) ||| ((x &&& mk h n) * 2 ^ h) = sl h n x := by
  have hp : 0 < 2 ^ h := Nat.pow_pos (by omega)
  induction n generalizing x with
  | zero => simp [mk, sl]
  | succ n ih =>
    simp only [mk, sl]
    rw [and_low, and_low, Nat.add_mul, Nat.mul_assoc, or_pair _ _ _ _ _ (Nat.mod_lt _ hp) (Nat.mod_lt _ hp), Nat.div_div_eq_div_mul, Nat.mul_comm (2 ^ h) (2 ^ (h + h)), ← Nat.div_div_eq_div_mul, ih]

theorem sl_rl (h n x : Nat) : sl h n (rl h (n + n) x) = rl (h + h) n x := by
  have hp : 0 < 2 ^ h := Nat.pow_pos (by omega)
  have hW : 2 ^ (h + h) = 2 ^ h * 2 ^ h := Nat.pow_add ..
  induction n generalizing x with
  | zero => rfl
  | succ n ih =>
    have ih := ih (x / 2 ^ (h + h))
    have e : rl h (n + 1 + (n + 1)) x = revn h (x % 2 ^ h) + 2 ^ h * (revn h (x / 2 ^ h % 2 ^ h) + 2 ^ h * rl h (n + n) (x / 2 ^ h / 2 ^ h)) := by
      rw [show n + 1 + (n + 1) = (n + n) + 1 + 1 by omega]; rfl
    have h1 := revn_lt h (x % 2 ^ h)
    have h2 := revn_lt h (x / 2 ^ h % 2 ^ h)
    have hr : revn (h + h) (x % 2 ^ (h + h)) = revn h (x % 2 ^ h) * 2 ^ h + revn h (x / 2 ^ h % 2 ^ h) := by
      rw [revn_mod, revn_add, revn_mod, revn_mod]
    rw [Nat.div_div_eq_div_mul, ← hW] at e
    rw [e]
    simp only [sl, rl]
    rw [hr]
    generalize rl h (n + n) (x / 2 ^ (h + h)) = R at *
    generalize revn h (x % 2 ^ h) = A at *
    generalize revn h (x / 2 ^ h % 2 ^ h) = C at *
    have e1 : (A + 2 ^ h * (C + 2 ^ h * R)) / 2 ^ h % 2 ^ h = C := by
      rw [Nat.add_mul_div_left _ _ hp, Nat.div_eq_of_lt h1, Nat.zero_add, Nat.add_mul_mod_self_left, Nat.mod_eq_of_lt h2]
    have e2 : (A + 2 ^ h * (C + 2 ^ h * R)) % 2 ^ h = A := by rw [Nat.add_mul_mod_self_left, Nat.mod_eq_of_lt h1]
    have e3 : (A + 2 ^ h * (C + 2 ^ h * R)) / 2 ^ (h + h) = R := by
      rw [hW, ← Nat.div_div_eq_div_mul, Nat.add_mul_div_left _ _ hp, Nat.div_eq_of_lt h1, Nat.zero_add, Nat.add_mul_div_left _ _ hp, Nat.div_eq_of_lt h2, Nat.zero_add]
    rw [e1, e2, e3, ih]
    omega

theorem rl_one (n x : Nat) (h : x < 2 ^ n) : rl 1 n x = x := by
  induction n generalizing x with
  | zero => simp [rl]; omega
  | succ n ih =>
    rw [Nat.pow_succ] at h
    have e : revn 1 (x % 2) = x % 2 := by rw [revn_one]; omega
    simp only [rl, Nat.pow_one, e]
    rw [ih (x / 2) (by omega)]
    omega
theorem rl_whole (h x : Nat) : rl h 1 x = revn h x := by
  simp only [rl, Nat.mul_zero, Nat.add_zero]
  rw [revn_mod]
theorem rl_start (n x y : Nat) (h : x < 2 ^ (n + n)) (hy : y = sl 1 n x) : y = rl 2 n x := by
  rw [hy]
  have := sl_rl 1 n x
  rw [rl_one _ x h] at this
  exact this
theorem rl_next (h n x y z : Nat) (hy : y = rl h (n + n) x) (hz : z = sl h n y) : z = rl (h + h) n x := by rw [hz, hy, sl_rl]

/-- The word turned, as the library does it. -/
theorem turn_steps (x y1 y2 y3 y4 y5 y6 : Nat) (hx : x < 2 ^ 64) (h1 : y1 = sl 1 32 x) (h2 : y2 = sl 2 16 y1) (h3 : y3 = sl 4 8 y2) (h4 : y4 = sl 8 4 y3) (h5 : y5 = sl 16 2 y4) (h6 : y6 = sl 32 1 y5) : y6 = revn 64 x := by
  have g1 := rl_start 32 x y1 hx h1
  have g2 := rl_next 2 16 x y1 y2 g1 h2
  have g3 := rl_next 4 8 x y2 y3 g2 h3
  have g4 := rl_next 8 4 x y3 y4 g3 h4
  have g5 := rl_next 16 2 x y4 y5 g4 h5
  have g6 := rl_next 32 1 x y5 y6 g5 h6
  rw [g6]
  exact rl_whole 64 x

theorem sl_lt (h n x : Nat) : sl h n x < 2 ^ ((h + h) * n) := by
  have hp : 0 < 2 ^ h := Nat.pow_pos (by omega)
  have hW : 2 ^ (h + h) = 2 ^ h * 2 ^ h := Nat.pow_add ..
  induction n generalizing x with
  | zero => simp [sl]
  | succ n ih =>
    have ih := ih (x / 2 ^ (h + h))
    have h1 := Nat.mod_lt (x / 2 ^ h) hp
    have h2 := Nat.mod_lt x hp
    simp only [sl]
    have h3 : x % 2 ^ h * 2 ^ h + 2 ^ h ≤ 2 ^ (h + h) := by
      rw [hW]
      have : (x % 2 ^ h + 1) * 2 ^ h ≤ 2 ^ h * 2 ^ h := Nat.mul_le_mul_right _ h2
      rw [Nat.add_mul] at this; omega
    have hX : 2 ^ ((h + h) * (n + 1)) = 2 ^ (h + h) * 2 ^ ((h + h) * n) := by rw [Nat.mul_succ, Nat.pow_add, Nat.mul_comm]
    rw [hX]
    generalize 2 ^ (h + h) = W at *
    generalize hS : sl h n (x / W) = S at *
    have h4 : W * (S + 1) ≤ W * 2 ^ ((h + h) * n) := Nat.mul_le_mul_left _ ih
    rw [Nat.mul_add] at h4
    generalize x / 2 ^ h % 2 ^ h = A at *
    generalize x % 2 ^ h * 2 ^ h = C at *
    generalize 2 ^ h = P at *
    generalize W * 2 ^ ((h + h) * n) = Z at *
    generalize W * S = V at *
    clear hW hX
    omega
attribute [irreducible] sl rl

end Go.Proofs.Ytnieacfleabikaa

import Derived.Test.YtladgklnacihkaaGreatMg6
import Derived.Test.YtladgklnacihkaaGreatMg0
/- Plain facts on rows of bits as one great number. -/
namespace Go.Proofs.YtladgklnacihkaaGreat
set_option linter.unusedVariables false

def bitB (n r : Nat) : Bool := n / 2 ^ r % 2 == 1
theorem bitB_test (n r : Nat) : bitB n r = n.testBit r := by
  unfold bitB
  rw [Nat.testBit_eq_decide_div_mod_eq]
  rfl
theorem bitB_eq (n r y : Nat) (h : n / 2 ^ r % 2 = y) : (((y : Nat) : Int) == 1) = bitB n r := by
  unfold bitB
  rw [h]
  have : y = 0 ∨ y = 1 := by omega
  rcases this with rfl | rfl <;> rfl
def bwN (n : Nat) : Nat := (n + 63) / 64
def bitsN (l : List Bool) : Nat → Nat
  | 0 => 0
  | k + 1 => bitsN l k + (if l.getD k false then 1 else 0) * 2 ^ k
theorem bitsN_succ (l : List Bool) (k : Nat) : bitsN l (k + 1) = bitsN l k + (if l.getD k false then 1 else 0) * 2 ^ k := rfl
theorem bitsN_zero (l : List Bool) : bitsN l 0 = 0 := rfl
theorem bitsN_lt (l : List Bool) (k : Nat) : bitsN l k < 2 ^ k := by
  induction k with
  | zero => simp [bitsN]
  | succ k ih =>
    rw [bitsN_succ, Nat.pow_succ]
    split <;> omega
theorem bitsN_at (l : List Bool) (k i : Nat) (h : i < k) : bitB (bitsN l k) i = l.getD i false := by
  induction k with
  | zero => omega
  | succ k ih =>
    rw [bitsN_succ, bitB_test]
    have hlt := bitsN_lt l k
    by_cases hb : l.getD k false = true
    · rw [if_pos hb, Nat.one_mul]
      by_cases hik : i = k
      · subst hik
        rw [hb, Nat.add_comm, Nat.testBit_two_pow_add_eq, Nat.testBit_lt_two_pow hlt]
        rfl
      · rw [Nat.add_comm, Nat.testBit_two_pow_add_gt (by omega), ← bitB_test]
        exact ih (by omega)
    · rw [if_neg hb, Nat.zero_mul, Nat.add_zero]
      by_cases hik : i = k
      · subst hik
        rw [Nat.testBit_lt_two_pow hlt]
        simpa using hb
      · rw [← bitB_test]; exact ih (by omega)
theorem wrd_bit (N i : Nat) : bitB (wrd N (i / 64)) (i % 64) = bitB N i := by
  rw [bitB_test, bitB_test]
  unfold wrd
  rw [Nat.testBit_mod_two_pow, Nat.testBit_div_two_pow]
  have h1 : i % 64 < 64 := Nat.mod_lt _ (by omega)
  rw [show i % 64 + 64 * (i / 64) = i by omega]
  simp [h1]
theorem last_bits (N n : Nat) (hN : N < 2 ^ n) (hr : n % 64 ≠ 0) : wrd N (bwN n - 1) / 2 ^ (n % 64) = 0 := by
  have e : n = 64 * (bwN n - 1) + n % 64 := by unfold bwN; omega
  apply Nat.div_eq_of_lt
  unfold wrd
  refine Nat.lt_of_le_of_lt (Nat.mod_le _ _) ?_
  rw [Nat.div_lt_iff_lt_mul (Nat.pow_pos (by omega)), ← Nat.pow_add, Nat.add_comm, ← e]
  exact hN
/-- Behind one bit more. -/
theorem put_bit (N k m : Nat) (h : N < 2 ^ k) (hm : k / 64 < m) : wordsOf (N + 1 * 2 ^ k) m = (wordsOf N m).set (k / 64) (wrd N (k / 64) ||| 2 ^ (k % 64)) := by
  have h0 : 1 / 2 ^ (64 - k % 64) = 0 := Nat.div_eq_of_lt (Nat.one_lt_two_pow (by omega))
  rw [put_words N 1 k m h (by decide) hm (fun h => by omega), if_neg (by omega), Nat.one_mul]
  rw [Nat.mod_eq_of_lt (Nat.pow_lt_pow_right (by omega) (Nat.mod_lt _ (by omega)))]
attribute [irreducible] bitB bitsN
end Go.Proofs.YtladgklnacihkaaGreat

/- Plain facts on the ones of a word. -/
namespace Go.Proofs.YtladgklnacihkaaGreat
set_option linter.unusedVariables false

/-- How many of the lowest n bits are ones. -/
def pcn : Nat → Nat → Nat
  | 0, _ => 0
  | n + 1, x => x % 2 + pcn n (x / 2)

theorem pcn_le (n x : Nat) : pcn n x ≤ n := by
  induction n generalizing x with
  | zero => simp [pcn]
  | succ n ih => have := ih (x / 2); simp only [pcn]; omega
theorem pcn_zero (n : Nat) : pcn n 0 = 0 := by
  induction n with
  | zero => rfl
  | succ n ih => simp [pcn, ih]
theorem pcn_mod (n i x : Nat) (h : i ≤ n) : pcn n (x % 2 ^ i) = pcn i x := by
  induction n generalizing i x with
  | zero => obtain rfl : i = 0 := by omega
            simp [pcn]
  | succ n ih =>
    cases i with
    | zero => simp [pcn_zero, pcn, Nat.mod_one]
    | succ j =>
      have h1 : x % 2 ^ (j + 1) % 2 = x % 2 := by
        rw [Nat.pow_succ, Nat.mul_comm, Nat.mod_mul_right_mod]
      have h2 : x % 2 ^ (j + 1) / 2 = x / 2 % 2 ^ j := by
        rw [Nat.pow_succ, Nat.mul_comm, Nat.mod_mul_right_div_self]
      simp only [pcn, h1, h2, ih j (x / 2) (by omega)]
theorem pcn_add (n m x : Nat) : pcn (n + m) x = pcn n x + pcn m (x / 2 ^ n) := by
  induction n generalizing x with
  | zero => simp [pcn]
  | succ n ih =>
    rw [show n + 1 + m = (n + m) + 1 by omega]
    simp only [pcn]
    rw [ih (x / 2), Nat.div_div_eq_div_mul, show 2 * 2 ^ n = 2 ^ (n + 1) by rw [Nat.pow_succ, Nat.mul_comm]]
    omega

theorem and_split (a b : Nat) : a &&& b = (a % 256 &&& b % 256) + 256 * (a / 256 &&& b / 256) := by
  have h1 : (a &&& b) % 256 = a % 256 &&& b % 256 := Nat.and_mod_two_pow (n := 8)
  have h2 : (a &&& b) / 256 = a / 256 &&& b / 256 := Nat.and_div_two_pow (n := 8)
  omega

/-- A mask of n like bytes. -/
def msk (c : Nat) : Nat → Nat
  | 0 => 0
  | n + 1 => c + 256 * msk c n
theorem and_msk (a c n : Nat) (hc : c < 256) : a &&& msk c (n + 1) = (a % 256 &&& c) + 256 * (a / 256 &&& msk c n) := by
  rw [and_split]
  simp only [msk]
  rw [show (c + 256 * msk c n) % 256 = c by omega, show (c + 256 * msk c n) / 256 = msk c n by omega]

/-- One step of the count: neighbours added. -/
def st (s c n x : Nat) : Nat := (x / s &&& msk c n) + (x &&& msk c n)
set_option maxRecDepth 100000 in
theorem low_55 : ∀ b : Fin 256, ∀ r : Fin 2, ((b.val + 256 * r.val) / 2) % 256 &&& 0x55 = b.val / 2 &&& 0x55 := by decide +kernel
set_option maxRecDepth 100000 in
theorem low_33 : ∀ b : Fin 256, ∀ r : Fin 4, ((b.val + 256 * r.val) / 4) % 256 &&& 0x33 = b.val / 4 &&& 0x33 := by decide +kernel

theorem st_55 (n x : Nat) : st 2 0x55 (n + 1) x = ((x % 256 / 2 &&& 0x55) + (x % 256 &&& 0x55)) + 256 * st 2 0x55 n (x / 256) := by
  unfold st
  rw [and_msk _ _ _ (by omega), and_msk _ _ _ (by omega)]
  have h := low_55 ⟨x % 256, by omega⟩ ⟨x / 256 % 2, by omega⟩
  simp only at h
  rw [show (x % 256 + 256 * (x / 256 % 2)) / 2 % 256 = x / 2 % 256 by omega] at h
  rw [h, show x / 2 / 256 = x / 256 / 2 by omega]
  omega
theorem st_33 (n x : Nat) : st 4 0x33 (n + 1) x = ((x % 256 / 4 &&& 0x33) + (x % 256 &&& 0x33)) + 256 * st 4 0x33 n (x / 256) := by
  unfold st
  rw [and_msk _ _ _ (by omega), and_msk _ _ _ (by omega)]
  have h := low_33 ⟨x % 256, by omega⟩ ⟨x / 256 % 4, by omega⟩
  simp only at h
  rw [show (x % 256 + 256 * (x / 256 % 4)) / 4 % 256 = x / 4 % 256 by omega] at h
  rw [h, show x / 4 / 256 = x / 256 / 4 by omega]
  omega

/-- The ones of each byte, in its place. -/
def byt : Nat → Nat → Nat
  | 0, _ => 0
  | n + 1, x => pcn 8 (x % 256) + 256 * byt n (x / 256)

def b1 (b : Nat) : Nat := (b / 2 &&& 0x55) + (b &&& 0x55)
def b2 (b : Nat) : Nat := (b1 b / 4 &&& 0x33) + (b1 b &&& 0x33)
set_option maxRecDepth 100000 in
theorem b1_lt : ∀ b : Fin 256, b1 b.val < 256 ∧ b2 b.val < 256 := by decide +kernel
set_option maxRecDepth 100000 in
theorem b3_eq : ∀ b : Fin 256, ∀ r : Fin 16, ((b2 b.val + 256 * r.val) / 16 + b2 b.val) % 256 &&& 0x0f = pcn 8 b.val := by decide +kernel
set_option maxRecDepth 100000 in
theorem b2_low : ∀ b : Fin 256, b2 b.val % 16 ≤ 4 ∧ b2 b.val / 16 ≤ 4 := by decide +kernel

theorem two_steps (n x : Nat) : st 4 0x33 (n + 1) (st 2 0x55 (n + 1) x) = b2 (x % 256) + 256 * st 4 0x33 n (st 2 0x55 n (x / 256)) := by
  have hl := b1_lt ⟨x % 256, by omega⟩
  simp only at hl
  have e : st 2 0x55 (n + 1) x = b1 (x % 256) + 256 * st 2 0x55 n (x / 256) := st_55 n x
  rw [st_33, e, show (b1 (x % 256) + 256 * st 2 0x55 n (x / 256)) % 256 = b1 (x % 256) by omega, show (b1 (x % 256) + 256 * st 2 0x55 n (x / 256)) / 256 = st 2 0x55 n (x / 256) by omega]
  rfl

/-- No half of a byte holds more than 4 behind two steps. -/
def small : Nat → Nat → Prop
  | 0, y => y = 0
  | n + 1, y => y % 16 ≤ 4 ∧ y / 16 % 16 ≤ 4 ∧ small n (y / 256)
theorem small_two (n x : Nat) : small n (st 4 0x33 n (st 2 0x55 n x)) := by
  induction n generalizing x with
  | zero => simp [small, st, msk]
  | succ n ih =>
    rw [two_steps]
    have h1 := b1_lt ⟨x % 256, by omega⟩
    have h2 := b2_low ⟨x % 256, by omega⟩
    simp only at h1 h2
    refine ⟨by omega, by omega, ?_⟩
    rw [show (b2 (x % 256) + 256 * st 4 0x33 n (st 2 0x55 n (x / 256))) / 256 = st 4 0x33 n (st 2 0x55 n (x / 256)) by omega]
    exact ih _

theorem three_steps (n x : Nat) : (st 4 0x33 n (st 2 0x55 n x) / 16 + st 4 0x33 n (st 2 0x55 n x)) &&& msk 0x0f n = byt n x := by
  induction n generalizing x with
  | zero => simp [msk, byt]
  | succ n ih =>
    have h1 := b1_lt ⟨x % 256, by omega⟩
    have h2 := b2_low ⟨x % 256, by omega⟩
    have ih := ih (x / 256)
    have hs := small_two n (x / 256)
    rw [and_msk _ _ _ (by omega), two_steps]
    generalize st 4 0x33 n (st 2 0x55 n (x / 256)) = y at *
    have h3 := b3_eq ⟨x % 256, by omega⟩ ⟨y % 16, by omega⟩
    simp only at h1 h2 h3
    have e1 : ((b2 (x % 256) + 256 * y) / 16 + (b2 (x % 256) + 256 * y)) % 256 = ((b2 (x % 256) + 256 * (y % 16)) / 16 + b2 (x % 256)) % 256 := by omega
    have hy : y % 16 ≤ 4 := by
      cases n with
      | zero => simp only [small] at hs; omega
      | succ m => exact hs.1
    have e2 : ((b2 (x % 256) + 256 * y) / 16 + (b2 (x % 256) + 256 * y)) / 256 = y / 16 + y := by omega
    rw [e1, e2, h3, ih]
    rfl

theorem pcn8_mod (x : Nat) : pcn 8 (x % 256) = pcn 8 x := by
  have := pcn_mod 8 8 x (Nat.le_refl _)
  exact this
theorem pcn_bytes (x : Nat) : pcn 64 x = pcn 8 (x % 256) + pcn 8 (x / 256 % 256) + pcn 8 (x / 65536 % 256) + pcn 8 (x / 16777216 % 256) + pcn 8 (x / 4294967296 % 256) + pcn 8 (x / 1099511627776 % 256) + pcn 8 (x / 281474976710656 % 256) + pcn 8 (x / 72057594037927936 % 256) := by
  simp only [pcn8_mod]
  rw [show (64 : Nat) = 8 + (8 + (8 + (8 + (8 + (8 + (8 + 8)))))) by rfl]
  simp only [pcn_add, Nat.div_div_eq_div_mul]
  simp only [Nat.reducePow, Nat.reduceMul]
  omega

/-- Eight small bytes are summed by halves. -/
theorem sum_bytes (y0 y1 y2 y3 y4 y5 y6 y7 C : Nat) (g0 : y0 ≤ 8) (g1 : y1 ≤ 8) (g2 : y2 ≤ 8) (g3 : y3 ≤ 8) (g4 : y4 ≤ 8) (g5 : y5 ≤ 8) (g6 : y6 ≤ 8) (g7 : y7 ≤ 8)
    (hC : C = y0 + 256 * (y1 + 256 * (y2 + 256 * (y3 + 256 * (y4 + 256 * (y5 + 256 * (y6 + 256 * y7))))))) (D E : Nat) (hD : D = C + C / 256) (hE : E = D + D / 65536) :
    (E + E / 4294967296) &&& 127 = y0 + y1 + y2 + y3 + y4 + y5 + y6 + y7 := by
  have d1 : C / 256 = y1 + 256 * (y2 + 256 * (y3 + 256 * (y4 + 256 * (y5 + 256 * (y6 + 256 * y7))))) := by omega
  have d2 : D = (y0 + y1) + 256 * (y1 + y2) + 65536 * ((y2 + y3) + 256 * (y3 + y4) + 65536 * ((y4 + y5) + 256 * (y5 + y6) + 65536 * ((y6 + y7) + 256 * y7))) := by rw [hD, d1, hC]; simp only [Nat.mul_add, ← Nat.mul_assoc, Nat.reduceMul]; omega
  clear hD d1 hC
  obtain ⟨z, hz⟩ : ∃ z, z = (y2 + y3) + 256 * (y3 + y4) + 65536 * ((y4 + y5) + 256 * (y5 + y6) + 65536 * ((y6 + y7) + 256 * y7)) := ⟨_, rfl⟩
  rw [← hz] at d2
  have d3 : D / 65536 = z := by clear hz hE; omega
  rw [d3, d2] at hE
  clear d2 d3
  obtain ⟨u, hu⟩ : ∃ u, u = (y4 + y5 + y6 + y7) + 256 * (y5 + y6 + y7) + 65536 * ((y6 + y7) + 256 * y7) := ⟨_, rfl⟩
  have d4 : E = (y0 + y1 + y2 + y3) + 256 * (y1 + y2 + y3 + y4) + 65536 * ((y2 + y3 + y4 + y5) + 256 * (y3 + y4 + y5 + y6)) + 4294967296 * u := by rw [hE, hz, hu]; simp only [Nat.mul_add, ← Nat.mul_assoc, Nat.reduceMul]; omega
  clear hE hz
  have d5 : E / 4294967296 = u := by clear hu; omega
  rw [d5]
  have hm : ∀ z : Nat, z &&& 127 = z % 128 := fun z => Nat.and_two_pow_sub_one_eq_mod z 7
  rw [hm, d4]
  clear d4 d5 hm
  have e1 : ((y0 + y1 + y2 + y3) + 256 * (y1 + y2 + y3 + y4) + 65536 * ((y2 + y3 + y4 + y5) + 256 * (y3 + y4 + y5 + y6)) + 4294967296 * u + u) = (y0 + y1 + y2 + y3 + y4 + y5 + y6 + y7) + 128 * (2 * (y1 + y2 + y3 + y4) + 512 * ((y2 + y3 + y4 + y5) + 256 * (y3 + y4 + y5 + y6)) + 33554432 * u + 2 * (y5 + y6 + y7) + 512 * ((y6 + y7) + 256 * y7)) := by
    simp only [Nat.mul_add, ← Nat.mul_assoc, Nat.reduceMul]; omega
  rw [e1, Nat.add_mul_mod_self_left, Nat.mod_eq_of_lt (by omega)]

/-- The count as the library has it. -/
def oc64 (x : Nat) : Nat :=
  let a := (x / 2 &&& 0x5555555555555555) + (x &&& 0x5555555555555555)
  let b := (a / 4 &&& 0x3333333333333333) + (a &&& 0x3333333333333333)
  let c := (b / 16 + b) &&& 0x0f0f0f0f0f0f0f0f
  let d := c + c / 256
  let e := d + d / 65536
  let f := e + e / 4294967296
  f &&& 127
theorem oc64_eq (x : Nat) (h : x < 18446744073709551616) : oc64 x = pcn 64 x := by
  have h3 := three_steps 8 x
  unfold st at h3
  simp only [msk, Nat.reduceMul, Nat.reduceAdd] at h3
  unfold oc64
  dsimp only
  rw [h3]
  have e : byt 8 x = pcn 8 (x % 256) + 256 * (pcn 8 (x / 256 % 256) + 256 * (pcn 8 (x / 65536 % 256) + 256 * (pcn 8 (x / 16777216 % 256) + 256 * (pcn 8 (x / 4294967296 % 256) + 256 * (pcn 8 (x / 1099511627776 % 256) + 256 * (pcn 8 (x / 281474976710656 % 256) + 256 * (pcn 8 (x / 72057594037927936 % 256)))))))) := by
    simp only [byt, Nat.div_div_eq_div_mul, Nat.reduceMul, Nat.mul_zero, Nat.add_zero]
  rw [e, pcn_bytes]
  have hb := fun y => pcn_le 8 y
  have g0 := hb (x % 256)
  have g1 := hb (x / 256 % 256)
  have g2 := hb (x / 65536 % 256)
  have g3 := hb (x / 16777216 % 256)
  have g4 := hb (x / 4294967296 % 256)
  have g5 := hb (x / 1099511627776 % 256)
  have g6 := hb (x / 281474976710656 % 256)
  have g7 := hb (x / 72057594037927936 % 256)
  generalize pcn 8 (x % 256) = y0 at *
  generalize pcn 8 (x / 256 % 256) = y1 at *
  generalize pcn 8 (x / 65536 % 256) = y2 at *
  generalize pcn 8 (x / 16777216 % 256) = y3 at *
  generalize pcn 8 (x / 4294967296 % 256) = y4 at *
  generalize pcn 8 (x / 1099511627776 % 256) = y5 at *
  generalize pcn 8 (x / 281474976710656 % 256) = y6 at *
  generalize pcn 8 (x / 72057594037927936 % 256) = y7 at *
  exact sum_bytes y0 y1 y2 y3 y4 y5 y6 y7 _ g0 g1 g2 g3 g4 g5 g6 g7 rfl _ _ rfl rfl

theorem pcn_compl (k m x : Nat) (hk : k ≤ m) (hx : x < 2 ^ m) : pcn k x + pcn k (2 ^ m - 1 - x) = k := by
  induction k generalizing m x with
  | zero => rfl
  | succ k ih =>
    obtain ⟨m, rfl⟩ : ∃ m', m = m' + 1 := ⟨m - 1, by omega⟩
    rw [Nat.pow_succ] at hx
    have h := ih m (x / 2) (by omega) (by omega)
    have e1 : (2 ^ (m + 1) - 1 - x) % 2 = 1 - x % 2 := by rw [Nat.pow_succ]; omega
    have e2 : (2 ^ (m + 1) - 1 - x) / 2 = 2 ^ m - 1 - x / 2 := by rw [Nat.pow_succ]; omega
    simp only [pcn, e1, e2]
    omega
theorem xor_ones (x : Nat) (h : x < 18446744073709551616) : 18446744073709551615 ^^^ x = 18446744073709551615 - x := by
  have h1 := congrArg BitVec.toNat (BitVec.xor_allOnes (x := BitVec.ofNat 64 x))
  rw [BitVec.toNat_xor, BitVec.toNat_not, BitVec.toNat_allOnes, BitVec.toNat_ofNat, Nat.mod_eq_of_lt (by omega)] at h1
  rw [Nat.xor_comm]
  exact h1
theorem bit_and (x y : Nat) : (x &&& y) % 2 = if x % 2 = 1 ∧ y % 2 = 1 then 1 else 0 := by
  have h : (x &&& y) % 2 ^ 1 = (x % 2 ^ 1) &&& (y % 2 ^ 1) := Nat.and_mod_two_pow
  simp only [Nat.pow_one] at h
  rw [h]
  rcases Nat.mod_two_eq_zero_or_one x with hx | hx <;> rcases Nat.mod_two_eq_zero_or_one y with hy | hy <;> simp [hx, hy]
theorem bit_or (x y : Nat) : (x ||| y) % 2 = if x % 2 = 1 ∨ y % 2 = 1 then 1 else 0 := by
  have h : (x ||| y) % 2 ^ 1 = (x % 2 ^ 1) ||| (y % 2 ^ 1) := Nat.or_mod_two_pow
  simp only [Nat.pow_one] at h
  rw [h]
  rcases Nat.mod_two_eq_zero_or_one x with hx | hx <;> rcases Nat.mod_two_eq_zero_or_one y with hy | hy <;> simp [hx, hy]
theorem bit_xor (x y : Nat) : (x ^^^ y) % 2 = if x % 2 = y % 2 then 0 else 1 := by
  have h : (x ^^^ y) % 2 ^ 1 = (x % 2 ^ 1) ^^^ (y % 2 ^ 1) := Nat.xor_mod_two_pow
  simp only [Nat.pow_one] at h
  rw [h]
  rcases Nat.mod_two_eq_zero_or_one x with hx | hx <;> rcases Nat.mod_two_eq_zero_or_one y with hy | hy <;> simp [hx, hy]
theorem half_and (x y : Nat) : (x &&& y) / 2 = x / 2 &&& y / 2 := Nat.and_div_two_pow (n := 1)
theorem half_or (x y : Nat) : (x ||| y) / 2 = x / 2 ||| y / 2 := Nat.or_div_two_pow (n := 1)
theorem half_xor (x y : Nat) : (x ^^^ y) / 2 = x / 2 ^^^ y / 2 := Nat.xor_div_two_pow (n := 1)
theorem pcn_or_and (n x y : Nat) : pcn n x + pcn n y = pcn n (x ||| y) + pcn n (x &&& y) := by
  induction n generalizing x y with
  | zero => rfl
  | succ n ih =>
    have h := ih (x / 2) (y / 2)
    simp only [pcn, half_and, half_or, bit_and, bit_or]
    rcases Nat.mod_two_eq_zero_or_one x with hx | hx <;> rcases Nat.mod_two_eq_zero_or_one y with hy | hy <;> simp [hx, hy] <;> omega
theorem pcn_xor (n x y : Nat) : pcn n (x ^^^ y) + pcn n (x &&& y) = pcn n (x ||| y) := by
  induction n generalizing x y with
  | zero => rfl
  | succ n ih =>
    have h := ih (x / 2) (y / 2)
    simp only [pcn, half_and, half_or, half_xor, bit_and, bit_or, bit_xor]
    rcases Nat.mod_two_eq_zero_or_one x with hx | hx <;> rcases Nat.mod_two_eq_zero_or_one y with hy | hy <;> simp [hx, hy] <;> omega
theorem pcn_pos (n x : Nat) (h : x < 2 ^ n) (h0 : pcn n x = 0) : x = 0 := by
  induction n generalizing x with
  | zero => omega
  | succ n ih =>
    simp only [pcn] at h0
    have := ih (x / 2) (by rw [Nat.pow_succ] at h; omega) (by omega)
    omega
theorem pcn_five : pcn 64 5 = 2 := by decide

theorem pcn_one (x : Nat) : pcn 1 x = x % 2 := by simp [pcn]
theorem pcn_none (x : Nat) : pcn 0 x = 0 := rfl
attribute [irreducible] pcn

end Go.Proofs.YtladgklnacihkaaGreat

/- Plain facts on how many bits are set ahead of a place. -/
namespace Go.Proofs.YtladgklnacihkaaGreat
set_option linter.unusedVariables false

theorem pcn_succ (i N : Nat) : pcn (i + 1) N = pcn i N + (if bitB N i then 1 else 0) := by
  rw [pcn_add, pcn_one]
  have := Nat.mod_two_eq_zero_or_one (N / 2 ^ i)
  unfold bitB
  rcases this with h | h <;> rw [h] <;> rfl
theorem pcn_words (N q : Nat) : pcn (64 * (q + 1)) N = pcn (64 * q) N + pcn 64 (wrd N q) := by
  rw [Nat.mul_add, Nat.mul_one, pcn_add]
  unfold wrd
  rw [pcn_mod 64 64 _ (Nat.le_refl _)]
theorem pcn_rest (N q r : Nat) (h : r ≤ 64) : pcn (64 * q + r) N = pcn (64 * q) N + pcn r (wrd N q) := by
  rw [pcn_add]
  unfold wrd
  rw [pcn_mod 64 r (N / 2 ^ (64 * q) % 2 ^ 64) h |>.symm]
  have := pcn_mod 64 64 (N / 2 ^ (64 * q)) (Nat.le_refl _)
  congr 1
  rw [Nat.mod_mod_of_dvd _ (Nat.pow_dvd_pow 2 h)]
  exact (pcn_mod 64 r _ h).symm
/-- How many of the first i are set. -/
def cntB (l : List Bool) (i : Nat) : Nat := (l.take i).count true
theorem cntB_zero (l : List Bool) : cntB l 0 = 0 := by simp [cntB]
theorem cntB_succ (l : List Bool) (i : Nat) (h : i < l.length) : cntB l (i + 1) = cntB l i + (if l[i] then 1 else 0) := by
  unfold cntB
  rw [List.take_succ_eq_append_getElem h, List.count_append]
  cases l[i] <;> simp
theorem cntB_le (l : List Bool) (i : Nat) : cntB l i ≤ i := Nat.le_trans List.count_le_length (List.length_take_le _ _)
theorem pcn_bits (l : List Bool) (i : Nat) (h : i ≤ l.length) : pcn i (bitsN l l.length) = cntB l i := by
  induction i with
  | zero => rw [pcn_none, cntB_zero]
  | succ i ih =>
    rw [pcn_succ, ih (by omega), cntB_succ l i h, bitsN_at l _ i h, getD_at _ _ h]
theorem cntB_append (l m : List Bool) (k : Nat) : cntB (l ++ m) k = cntB l (min k l.length) + cntB m (k - l.length) := by
  unfold cntB
  rw [List.take_append, List.count_append]
  congr 2
  by_cases h : k ≤ l.length
  · rw [Nat.min_eq_left h]
  · rw [Nat.min_eq_right (by omega), List.take_of_length_le (by omega), List.take_of_length_le (by omega)]
attribute [irreducible] cntB
end Go.Proofs.YtladgklnacihkaaGreat


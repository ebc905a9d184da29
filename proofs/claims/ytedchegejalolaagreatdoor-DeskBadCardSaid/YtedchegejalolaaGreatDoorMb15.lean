import Derived.Test.YtedchegejalolaaGreatDoorMb0
import Derived.Test.YtedchegejalolaaGreatDoorMb14
import Derived.Test.YtedchegejalolaaGreatDoorMb3
/- Plain facts on the ones of a word. -/
namespace Go.Proofs.YtedchegejalolaaGreatDoor
set_option linter.unusedVariables false

/-- How many of the lowest n bits are ones. -/
def pcn : Nat → Nat → Nat
  | 0, _ => 0
  | n + 1, x => x % 2 + pcn n (x / 2)

theorem pcn_le (n x : Nat) : pcn n x ≤ n := by
  induction n generalizing x with
  | zero => simp [pcn]
  | succ n ih => have := ih (x / 2); simp only [pcn]; omega
theorem pcn_zero (n : Nat) : pcn n 0 = 0 := by
  induction n with
  | zero => rfl
  | succ n ih => simp [pcn, ih]
theorem pcn_mod (n i x : Nat) (h : i ≤ n) : pcn n (x % 2 ^ i) = pcn i x := by
  induction n generalizing i x with
  | zero => obtain rfl : i = 0 := by omega
            simp [pcn]
  | succ n ih =>
    cases i with
    | zero => simp [pcn_zero, pcn, Nat.mod_one]
    | succ j =>
      have h1 : x % 2 ^ (j + 1) % 2 = x % 2 := by
        rw [Nat.pow_succ, Nat.mul_comm, Nat.mod_mul_right_mod]
      have h2 : x % 2 ^ (j + 1) / 2 = x / 2 % 2 ^ j := by
        rw [Nat.pow_succ, Nat.mul_comm, Nat.mod_mul_right_div_self]
      simp only [pcn, h1, h2, ih j (x / 2) (by omega)]
theorem pcn_add (n m x : Nat) : pcn (n + m) x = pcn n x + pcn m (x / 2 ^ n) := by
  induction n generalizing x with
  | zero => simp [pcn]
  | succ n ih =>
    rw [show n + 1 + m = (n + m) + 1 by omega]
    simp only [pcn]
    rw [ih (x / 2), Nat.div_div_eq_div_mul, show 2 * 2 ^ n = 2 ^ (n + 1) by rw [Nat.pow_succ, Nat.mul_comm]]
    omega

theorem and_split (a b : Nat) : a &&& b = (a % 256 &&& b % 256) + 256 * (a / 256 &&& b / 256) := by
  have h1 : (a &&& b) % 256 = a % 256 &&& b % 256 := Nat.and_mod_two_pow (n := 8)
  have h2 : (a &&& b) / 256 = a / 256 &&& b / 256 := Nat.and_div_two_pow (n := 8)
  omega

/-- A mask of n like bytes. -/
def msk (c : Nat) : Nat → Nat
  | 0 => 0
  | n + 1 => c + 256 * msk c n
theorem and_msk (a c n : Nat) (hc : c < 256) : a &&& msk c (n + 1) = (a % 256 &&& c) + 256 * (a / 256 &&& msk c n) := by
  rw [and_split]
  simp only [msk]
  rw [show (c + 256 * msk c n) % 256 = c by omega, show (c + 256 * msk c n) / 256 = msk c n by omega]

/-- One step of the count: neighbours added. -/
def st (s c n x : Nat) : Nat := (x / s &&& msk c n) + (x &&& msk c n)
set_option maxRecDepth 100000 in
theorem low_55 : ∀ b : Fin 256, ∀ r : Fin 2, ((b.val + 256 * r.val) / 2) % 256 &&& 0x55 = b.val / 2 &&& 0x55 := by decide +kernel
set_option maxRecDepth 100000 in
theorem low_33 : ∀ b : Fin 256, ∀ r : Fin 4, ((b.val + 256 * r.val) / 4) % 256 &&& 0x33 = b.val / 4 &&& 0x33 := by decide +kernel

theorem st_55 (n x : Nat) : st 2 0x55 (n + 1) x = ((x % 256 / 2 &&& 0x55) + (x % 256 &&& 0x55)) + 256 * st 2 0x55 n (x / 256) := by
  unfold st
  rw [and_msk _ _ _ (by omega), and_msk _ _ _ (by omega)]
  have h := low_55 ⟨x % 256, by omega⟩ ⟨x / 256 % 2, by omega⟩
  simp only at h
  rw [show (x % 256 + 256 * (x / 256 % 2)) / 2 % 256 = x / 2 % 256 by omega] at h
  rw [h, show x / 2 / 256 = x / 256 / 2 by omega]
  omega
theorem st_33 (n x : Nat) : st 4 0x33 (n + 1) x = ((x % 256 / 4 &&& 0x33) + (x % 256 &&& 0x33)) + 256 * st 4 0x33 n (x / 256) := by
  unfold st
  rw [and_msk _ _ _ (by omega), and_msk _ _ _ (by omega)]
  have h := low_33 ⟨x % 256, by omega⟩ ⟨x / 256 % 4, by omega⟩
  simp only at h
  rw [show (x % 256 + 256 * (x / 256 % 4)) / 4 % 256 = x / 4 % 256 by omega] at h
  rw [h, show x / 4 / 256 = x / 256 / 4 by omega]
  omega

/-- The ones of each byte, in its place. -/
def byt : Nat → Nat → Nat
  | 0, _ => 0
  | n + 1, x => pcn 8 (x % 256) + 256 * byt n (x / 256)

def b1 (b : Nat) : Nat := (b / 2 &&& 0x55) + (b &&& 0x55)
def b2 (b : Nat) : Nat := (b1 b / 4 &&& 0x33) + (b1 b &&& 0x33)
set_option maxRecDepth 100000 in
theorem b1_lt : ∀ b : Fin 256, b1 b.val < 256 ∧ b2 b.val < 256 := by decide +kernel
set_option maxRecDepth 100000 in
theorem b3_eq : ∀ b : Fin 256, ∀ r : Fin 16, ((b2 b.val + 256 * r.val) / 16 + b2 b.val) % 256 &&& 0x0f = pcn 8 b.val := by decide +kernel
set_option maxRecDepth 100000 in
theorem b2_low : ∀ b : Fin 256, b2 b.val % 16 ≤ 4 ∧ b2 b.val / 16 ≤ 4 := by decide +kernel

theorem two_steps (n x : Nat) : st 4 0x33 (n + 1) (st 2 0x55 (n + 1) x) = b2 (x % 256) + 256 * st 4 0x33 n (st 2 0x55 n (x / 256)) := by
  have hl := b1_lt ⟨x % 256, by omega⟩
  simp only at hl
  have e : st 2 0x55 (n + 1) x = b1 (x % 256) + 256 * st 2 0x55 n (x / 256) := st_55 n x
  rw [st_33, e, show (b1 (x % 256) + 256 * st 2 0x55 n (x / 256)) % 256 = b1 (x % 256) by omega, show (b1 (x % 256) + 256 * st 2 0x55 n (x / 256)) / 256 = st 2 0x55 n (x / 256) by omega]
  rfl

/-- No half of a byte holds more than 4 behind two steps. -/
def small : Nat → Nat → Prop
  | 0, y => y = 0
  | n + 1, y => y % 16 ≤ 4 ∧ y / 16 % 16 ≤ 4 ∧ small n (y / 256)
theorem small_two (n x : Nat) : small n (st 4 0x33 n (st 2 0x55 n x)) := by
  induction n generalizing x with
  | zero => simp [small, st, msk]
  | succ n ih =>
    rw [two_steps]
    have h1 := b1_lt ⟨x % 256, by omega⟩
    have h2 := b2_low ⟨x % 256, by omega⟩
    simp only at h1 h2
    refine ⟨by omega, by omega, ?_⟩
    rw [show (b2 (x % 256) + 256 * st 4 0x33 n (st 2 0x55 n (x / 256))) / 256 = st 4 0x33 n (st 2 0x55 n (x / 256)) by omega]
    exact ih _

theorem three_steps (n x : Nat) : (st 4 0x33 n (st 2 0x55 n x) / 16 + st 4 0x33 n (st 2 0x55 n x)) &&& msk 0x0f n = byt n x := by
  induction n generalizing x with
  | zero => simp [msk, byt]
  | succ n ih =>
    have h1 := b1_lt ⟨x % 256, by omega⟩
    have h2 := b2_low ⟨x % 256, by omega⟩
    have ih := ih (x / 256)
    have hs := small_two n (x / 256)
    rw [and_msk _ _ _ (by omega), two_steps]
    generalize st 4 0x33 n (st 2 0x55 n (x / 256)) = y at *
    have h3 := b3_eq ⟨x % 256, by omega⟩ ⟨y % 16, by omega⟩
    simp only at h1 h2 h3
    have e1 : ((b2 (x % 256) + 256 * y) / 16 + (b2 (x % 256) + 256 * y)) % 256 = ((b2 (x % 256) + 256 * (y % 16)) / 16 + b2 (x % 256)) % 256 := by omega
    have hy : y % 16 ≤ 4 := by
      cases n with
      | zero => simp only [small] at hs; omega
      | succ m => exact hs.1
    have e2 : ((b2 (x % 256) + 256 * y) / 16 + (b2 (x % 256) + 256 * y)) / 256 = y / 16 + y := by omega
    rw [e1, e2, h3, ih]
    rfl

theorem pcn8_mod (x : Nat) : pcn 8 (x % 256) = pcn 8 x := by
  have := pcn_mod 8 8 x (Nat.le_refl _)
  exact this
theorem pcn_bytes (x : Nat) : pcn 64 x = pcn 8 (x % 256) + pcn 8 (x / 256 % 256) + pcn 8 (x / 65536 % 256) + pcn 8 (x / 16777216 % 256) + pcn 8 (x / 4294967296 % 256) + pcn 8 (x / 1099511627776 % 256) + pcn 8 (x / 281474976710656 % 256) + pcn 8 (x / 72057594037927936 % 256) := by
  simp only [pcn8_mod]
  rw [show (64 : Nat) = 8 + (8 + (8 + (8 + (8 + (8 + (8 + 8)))))) by rfl]
  simp only [pcn_add, Nat.div_div_eq_div_mul]
  simp only [Nat.reducePow, Nat.reduceMul]
  omega

/-- Eight small bytes are summed by halves. -/
theorem sum_bytes (y0 y1 y2 y3 y4 y5 y6 y7 C : Nat) (g0 : y0 ≤ 8) (g1 : y1 ≤ 8) (g2 : y2 ≤ 8) (g3 : y3 ≤ 8) (g4 : y4 ≤ 8) (g5 : y5 ≤ 8) (g6 : y6 ≤ 8) (g7 : y7 ≤ 8)
    (hC : C = y0 + 256 * (y1 + 256 * (y2 + 256 * (y3 + 256 * (y4 + 256 * (y5 + 256 * (y6 + 256 * y7))))))) (D E : Nat) (hD : D = C + C / 256) (hE : E = D + D / 65536) :
    (E + E / 4294967296) &&& 127 = y0 + y1 + y2 + y3 + y4 + y5 + y6 + y7 := by
  have d1 : C / 256 = y1 + 256 * (y2 + 256 * (y3 + 256 * (y4 + 256 * (y5 + 256 * (y6 + 256 * y7))))) := by omega
  have d2 : D = (y0 + y1) + 256 * (y1 + y2) + 65536 * ((y2 + y3) + 256 * (y3 + y4) + 65536 * ((y4 + y5) + 256 * (y5 + y6) + 65536 * ((y6 + y7) + 256 * y7))) := by rw [hD, d1, hC]; simp only [Nat.mul_add, ← Nat.mul_assoc, Nat.reduceMul]; omega
  clear hD d1 hC
  obtain ⟨z, hz⟩ : ∃ z, z = (y2 + y3) + 256 * (y3 + y4) + 65536 * ((y4 + y5) + 256 * (y5 + y6) + 65536 * ((y6 + y7) + 256 * y7)) := ⟨_, rfl⟩
  rw [← hz] at d2
  have d3 : D / 65536 = z := by clear hz hE; omega
  rw [d3, d2] at hE
  clear d2 d3
  obtain ⟨u, hu⟩ : ∃ u, u = (y4 + y5 + y6 + y7) + 256 * (y5 + y6 + y7) + 65536 * ((y6 + y7) + 256 * y7) := ⟨_, rfl⟩
  have d4 : E = (y0 + y1 + y2 + y3) + 256 * (y1 + y2 + y3 + y4) + 65536 * ((y2 + y3 + y4 + y5) + 256 * (y3 + y4 + y5 + y6)) + 4294967296 * u := by rw [hE, hz, hu]; simp only [Nat.mul_add, ← Nat.mul_assoc, Nat.reduceMul]; omega
  clear hE hz
  have d5 : E / 4294967296 = u := by clear hu; omega
  rw [d5]
  have hm : ∀ z : Nat, z &&& 127 = z % 128 := fun z => Nat.and_two_pow_sub_one_eq_mod z 7
  rw [hm, d4]
  clear d4 d5 hm
  have e1 : ((y0 + y1 + y2 + y3) + 256 * (y1 + y2 + y3 + y4) + 65536 * ((y2 + y3 + y4 + y5) + 256 * (y3 + y4 + y5 + y6)) + 4294967296 * u + u) = (y0 + y1 + y2 + y3 + y4 + y5 + y6 + y7) + 128 * (2 * (y1 + y2 + y3 + y4) + 512 * ((y2 + y3 + y4 + y5) + 256 * (y3 + y4 + y5 + y6)) + 33554432 * u + 2 * (y5 + y6 + y7) + 512 * ((y6 + y7) + 256 * y7)) := by
    simp only [Nat.mul_add, ← Nat.mul_assoc, Nat.reduceMul]; omega
  rw [e1, Nat.add_mul_mod_self_left, Nat.mod_eq_of_lt (by omega)]

/-- The count as the library has it. -/
def oc64 (x : Nat) : Nat :=
  let a := (x / 2 &&& 0x5555555555555555) + (x &&& 0x5555555555555555)
  let b := (a / 4 &&& 0x3333333333333333) + (a &&& 0x3333333333333333)
  let c := (b / 16 + b) &&& 0x0f0f0f0f0f0f0f0f
  let d := c + c / 256
  let e := d + d / 65536
  let f := e + e / 4294967296
  f &&& 127
theorem oc64_eq (x : Nat) (h : x < 18446744073709551616) : oc64 x = pcn 64 x := by
  have h3 := three_steps 8 x
  unfold st at h3
  simp only [msk, Nat.reduceMul, Nat.reduceAdd] at h3
  unfold oc64
  dsimp only
  rw [h3]
  have e : byt 8 x = pcn 8 (x % 256) + 256 * (pcn 8 (x / 256 % 256) + 256 * (pcn 8 (x / 65536 % 256) + 256 * (pcn 8 (x / 16777216 % 256) + 256 * (pcn 8 (x / 4294967296 % 256) + 256 * (pcn 8 (x / 1099511627776 % 256) + 256 * (pcn 8 (x / 281474976710656 % 256) + 256 * (pcn 8 (x / 72057594037927936 % 256)))))))) := by
    simp only [byt, Nat.div_div_eq_div_mul, Nat.reduceMul, Nat.mul_zero, Nat.add_zero]
  rw [e, pcn_bytes]
  have hb := fun y => pcn_le 8 y
  have g0 := hb (x % 256)
  have g1 := hb (x / 256 % 256)
  have g2 := hb (x / 65536 % 256)
  have g3 := hb (x / 16777216 % 256)
  have g4 := hb (x / 4294967296 % 256)
  have g5 := hb (x / 1099511627776 % 256)
  have g6 := hb (x / 281474976710656 % 256)
  have g7 := hb (x / 72057594037927936 % 256)
  generalize pcn 8 (x % 256) = y0 at *
  generalize pcn 8 (x / 256 % 256) = y1 at *
  generalize pcn 8 (x / 65536 % 256) = y2 at *
  generalize pcn 8 (x / 16777216 % 256) = y3 at *
  generalize pcn 8 (x / 4294967296 % 256) = y4 at *
  generalize pcn 8 (x / 1099511627776 % 256) = y5 at *
  generalize pcn 8 (x / 281474976710656 % 256) = y6 at *
  generalize pcn 8 (x / 72057594037927936 % 256) = y7 at *
  exact sum_bytes y0 y1 y2 y3 y4 y5 y6 y7 _ g0 g1 g2 g3 g4 g5 g6 g7 rfl _ _ rfl rfl

theorem pcn_one (x : Nat) : pcn 1 x = x % 2 := by simp [pcn]
theorem pcn_none (x : Nat) : pcn 0 x = 0 := rfl
attribute [irreducible] pcn

end Go.Proofs.YtedchegejalolaaGreatDoor

/- Plain facts on how many bits are set ahead of a place. -/
namespace Go.Proofs.YtedchegejalolaaGreatDoor
set_option linter.unusedVariables false

theorem pcn_succ (i N : Nat) : pcn (i + 1) N = pcn i N + (if bitB N i then 1 else 0) := by
  rw [pcn_add, pcn_one]
  have := Nat.mod_two_eq_zero_or_one (N / 2 ^ i)
  unfold bitB
  rcases this with h | h <;> rw [h] <;> rfl
theorem pcn_words (N q : Nat) : pcn (64 * (q + 1)) N = pcn (64 * q) N + pcn 64 (wrd N q) := by
  rw [Nat.mul_add, Nat.mul_one, pcn_add]
  unfold wrd
  rw [pcn_mod 64 64 _ (Nat.le_refl _)]
theorem pcn_rest (N q r : Nat) (h : r ≤ 64) : pcn (64 * q + r) N = pcn (64 * q) N + pcn r (wrd N q) := by
  rw [pcn_add]
  unfold wrd
  rw [pcn_mod 64 r (N / 2 ^ (64 * q) % 2 ^ 64) h |>.symm]
  have := pcn_mod 64 64 (N / 2 ^ (64 * q)) (Nat.le_refl _)
  congr 1
  rw [Nat.mod_mod_of_dvd _ (Nat.pow_dvd_pow 2 h)]
  exact (pcn_mod 64 r _ h).symm
/-- How many of the first i are set. -/
def cntB (l : List Bool) (i : Nat) : Nat := (l.take i).count true
theorem cntB_zero (l : List Bool) : cntB l 0 = 0 := by simp [cntB]
theorem cntB_succ (l : List Bool) (i : Nat) (h : i < l.length) : cntB l (i + 1) = cntB l i + (if l[i] then 1 else 0) := by
  unfold cntB
  rw [List.take_succ_eq_append_getElem h, List.count_append]
  cases l[i] <;> simp
theorem cntB_le (l : List Bool) (i : Nat) : cntB l i ≤ i := Nat.le_trans List.count_le_length (List.length_take_le _ _)
theorem pcn_bits (l : List Bool) (i : Nat) (h : i ≤ l.length) : pcn i (bitsN l l.length) = cntB l i := by
  induction i with
  | zero => rw [pcn_none, cntB_zero]
  | succ i ih =>
    rw [pcn_succ, ih (by omega), cntB_succ l i h, bitsN_at l _ i h, getD_at _ _ h]
attribute [irreducible] cntB
end Go.Proofs.YtedchegejalolaaGreatDoor

/- Plain facts on waves: a list turned level by level, ranges of it, and what is counted in them. -/
namespace Go.Proofs.YtedchegejalolaaGreatDoor
set_option linter.unusedVariables false

theorem div_step (y k : Nat) : y / 2 ^ k = 2 * (y / 2 ^ (k + 1)) + (if bitB y k = true then 1 else 0) := by
  have h1 : y / 2 ^ (k + 1) = y / 2 ^ k / 2 := by rw [Nat.pow_succ, Nat.div_div_eq_div_mul]
  have h2 : bitB y k = (y / 2 ^ k % 2 == 1) := by unfold bitB; rfl
  rw [h1, h2]
  generalize y / 2 ^ k = z
  have : z % 2 = 0 ∨ z % 2 = 1 := by omega
  rcases this with h | h <;> simp [h] <;> omega

def stepL (k : Nat) (l : List Nat) : List Nat := l.filter (fun x => bitB x k == false) ++ l.filter (fun x => bitB x k == true)
def rowL (k : Nat) (l : List Nat) : List Bool := l.map fun x => bitB x k
theorem rowL_length (k : Nat) (l : List Nat) : (rowL k l).length = l.length := by simp [rowL]
theorem stepL_perm (k : Nat) (l : List Nat) : (stepL k l).Perm l := by
  unfold stepL
  have := List.filter_append_perm (fun x => bitB x k == false) l
  have e : (fun x => bitB x k == true) = fun x => !(bitB x k == false) := by funext x; cases bitB x k <;> rfl
  rw [e]; exact this
theorem stepL_length (k : Nat) (l : List Nat) : (stepL k l).length = l.length := (stepL_perm k l).length_eq
/-- The list behind j of K levels. -/
def lst (K : Nat) (l : List Nat) : Nat → List Nat
  | 0 => l
  | j + 1 => stepL (K - 1 - j) (lst K l j)
theorem lst_zero (K : Nat) (l : List Nat) : lst K l 0 = l := rfl
theorem lst_succ (K : Nat) (l : List Nat) (j : Nat) : lst K l (j + 1) = stepL (K - 1 - j) (lst K l j) := rfl
theorem lst_length (K : Nat) (l : List Nat) (j : Nat) : (lst K l j).length = l.length := by
  induction j with
  | zero => rfl
  | succ j ih => rw [lst_succ, stepL_length, ih]
/-- The rows of a wave of K levels. -/
def rowAt (K : Nat) (l : List Nat) (j : Nat) : List Bool := rowL (K - 1 - j) (lst K l j)
theorem rowAt_length (K : Nat) (l : List Nat) (j : Nat) : (rowAt K l j).length = l.length := by rw [rowAt, rowL_length, lst_length]

/-- Where a place comes to. -/
def dwn (E : List Bool) (i : Nat) (one : Bool) : Nat := if one = true then E.length - cntB E E.length + cntB E i else i - cntB E i
/-- A range of a list. -/
def sg (l : List Nat) (a b : Nat) : List Nat := (l.take b).drop a
theorem sg_length (l : List Nat) (a b : Nat) (h : b ≤ l.length) : (sg l a b).length = b - a := by
  simp [sg]; omega
theorem sg_split (l : List Nat) (a b : Nat) (h : a ≤ b) : l.take b = l.take a ++ sg l a b := by
  have h1 := List.take_append_drop a (l.take b)
  rw [List.take_take, Nat.min_eq_left h] at h1
  exact h1.symm
theorem filter_le (l : List Nat) (p : Nat → Bool) (i : Nat) : ((l.take i).filter p).length ≤ (l.filter p).length := by
  have h : l.filter p = (l.take i).filter p ++ (l.drop i).filter p := by rw [← List.filter_append, List.take_append_drop]
  rw [h, List.length_append]; omega
theorem filter_front (l : List Nat) (p : Nat → Bool) (i : Nat) : (l.filter p).take ((l.take i).filter p).length = (l.take i).filter p := by
  have h : l.filter p = (l.take i).filter p ++ (l.drop i).filter p := by rw [← List.filter_append, List.take_append_drop]
  rw [h, List.take_left']
  rfl
theorem cnt_row (k : Nat) (l : List Nat) (i : Nat) : cntB (rowL k l) i = ((l.take i).filter fun x => bitB x k == true).length := by
  unfold cntB rowL
  rw [← List.map_take]
  generalize l.take i = m
  induction m with
  | nil => rfl
  | cons x m ih =>
    rw [List.map_cons, List.count_cons, ih, List.filter_cons]
    cases bitB x k <;> simp
theorem cnt_zeros (k : Nat) (l : List Nat) (i : Nat) (h : i ≤ l.length) : i - cntB (rowL k l) i = ((l.take i).filter fun x => bitB x k == false).length := by
  rw [cnt_row]
  have h1 := (stepL_perm k (l.take i)).length_eq
  unfold stepL at h1
  rw [List.length_append, List.length_take, Nat.min_eq_left h] at h1
  omega
theorem dwn_eq (k : Nat) (l : List Nat) (i : Nat) (h : i ≤ l.length) (o : Bool) :
    dwn (rowL k l) i o = (if o = true then (l.filter fun x => bitB x k == false).length else 0) + ((l.take i).filter fun x => bitB x k == o).length := by
  unfold dwn
  cases o with
  | false => rw [if_neg (by simp), if_neg (by simp), cnt_zeros k l i h, Nat.zero_add]
  | true =>
    rw [if_pos rfl, if_pos rfl]
    have := cnt_zeros k l l.length (Nat.le_refl _)
    rw [List.take_length] at this
    rw [rowL_length, this, cnt_row]
theorem dwn_take (k : Nat) (l : List Nat) (i : Nat) (h : i ≤ l.length) (o : Bool) :
    (stepL k l).take (dwn (rowL k l) i o) = (if o = true then (l.filter fun x => bitB x k == false) else []) ++ ((l.take i).filter fun x => bitB x k == o) := by
  rw [dwn_eq k l i h]
  unfold stepL
  cases o with
  | false =>
    rw [if_neg (by simp), if_neg (by simp), Nat.zero_add, List.take_append_of_le_length (filter_le _ _ _), filter_front]; rfl
  | true =>
    rw [if_pos rfl, if_pos rfl, List.take_length_add_append, filter_front]
theorem dwn_le (k : Nat) (l : List Nat) (i : Nat) (h : i ≤ l.length) (o : Bool) : dwn (rowL k l) i o ≤ l.length := by
  rw [dwn_eq k l i h]
  have h1 := (stepL_perm k l).length_eq
  unfold stepL at h1
  rw [List.length_append] at h1
  have h2 := filter_le l (fun x => bitB x k == o) i
  cases o <;> simp only [if_true, Bool.false_eq_true, if_false] <;> omega
theorem dwn_mono (k : Nat) (l : List Nat) (a b : Nat) (h : a ≤ b) (hb : b ≤ l.length) (o : Bool) : dwn (rowL k l) a o ≤ dwn (rowL k l) b o := by
  rw [dwn_eq k l a (by omega), dwn_eq k l b hb]
  have h2 := filter_le (l.take b) (fun x => bitB x k == o) a
  rw [List.take_take, Nat.min_eq_left h] at h2
  omega
/-- A range comes to what of it has that bit. -/
theorem dwn_sg (k : Nat) (l : List Nat) (a b : Nat) (h : a ≤ b) (hb : b ≤ l.length) (o : Bool) :
    sg (stepL k l) (dwn (rowL k l) a o) (dwn (rowL k l) b o) = (sg l a b).filter fun x => bitB x k == o := by
  have e : ∀ i, i ≤ l.length → dwn (rowL k l) i o = ((if o = true then (l.filter fun x => bitB x k == false) else []) ++ ((l.take i).filter fun x => bitB x k == o)).length := by
    intro i hi
    rw [dwn_eq k l i hi, List.length_append]
    cases o <;> simp
  conv => lhs; unfold sg
  rw [dwn_take k l b hb, e a (by omega), sg_split l a b h, List.filter_append, ← List.append_assoc, List.drop_left']
  rfl
/-- How many of a list are below a number. -/
def cntBelow (S : List Nat) (x : Nat) : Nat := S.countP fun y => decide (y < x)
/-- Those that have the same upper bits. -/
def same (k x : Nat) (S : List Nat) : List Nat := S.filter fun y => y / 2 ^ k == x / 2 ^ k
theorem same_step (k x : Nat) (S : List Nat) : (same (k + 1) x S).filter (fun y => bitB y k == bitB x k) = same k x S := by
  unfold same
  rw [List.filter_filter]
  apply List.filter_congr
  intro y _
  have h1 := div_step y k
  have h2 := div_step x k
  rw [h1, h2]
  generalize y / 2 ^ (k + 1) = u
  generalize x / 2 ^ (k + 1) = v
  rw [Bool.eq_iff_iff]
  cases bitB y k <;> cases bitB x k <;> simp <;> omega
/-- How many have smaller upper bits. -/
def lessK (k x : Nat) (S : List Nat) : Nat := S.countP fun y => decide (y / 2 ^ k < x / 2 ^ k)
theorem lessK_step (k x : Nat) (S : List Nat) : lessK k x S = lessK (k + 1) x S + (if bitB x k = true then ((same (k + 1) x S).filter fun y => bitB y k == false).length else 0) := by
  unfold lessK same
  rw [List.filter_filter]
  induction S with
  | nil => simp
  | cons y S ih =>
    rw [List.countP_cons, List.countP_cons, ih, List.filter_cons]
    have h1 := div_step y k
    have h2 := div_step x k
    rw [h1, h2]
    generalize y / 2 ^ (k + 1) = u
    generalize x / 2 ^ (k + 1) = v
    cases hy : bitB y k <;> cases hx : bitB x k
    · simp only [hy, Bool.false_eq_true, if_false, Nat.add_zero, decide_eq_true_eq]
      split <;> split <;> omega
    · simp only [hy, Bool.false_eq_true, if_false, if_true, Nat.add_zero, decide_eq_true_eq, beq_self_eq_true, Bool.true_and, beq_iff_eq]
      by_cases huv : u = v
      · subst huv
        rw [if_pos (by omega), if_neg (by omega), if_pos rfl, List.length_cons]; omega
      · rw [if_neg huv]
        split <;> split <;> omega
    · simp only [hy, Bool.false_eq_true, if_false, if_true, Nat.add_zero, decide_eq_true_eq]
      split <;> split <;> omega
    · simp only [hy, Bool.false_eq_true, if_false, if_true, Nat.add_zero, decide_eq_true_eq]
      have : (true == false) = false := rfl
      simp only [this, Bool.false_and, Bool.false_eq_true, if_false]
      split <;> split <;> omega
theorem same_all (K x : Nat) (S : List Nat) (h : ∀ y ∈ S, y < 2 ^ K) (hx : x < 2 ^ K) : same K x S = S := by
  unfold same
  rw [List.filter_eq_self]
  intro y hy
  rw [Nat.div_eq_of_lt (h y hy), Nat.div_eq_of_lt hx]; rfl
theorem lessK_all (K x : Nat) (S : List Nat) (hx : x < 2 ^ K) : lessK K x S = 0 := by
  unfold lessK
  rw [List.countP_eq_zero]
  intro y _
  rw [Nat.div_eq_of_lt hx]; simp
theorem lessK_none (x : Nat) (S : List Nat) : lessK 0 x S = cntBelow S x := by
  unfold lessK cntBelow
  simp
theorem below_all (K x : Nat) (S : List Nat) (h : ∀ y ∈ S, y < 2 ^ K) (hx : 2 ^ K ≤ x) : cntBelow S x = S.length := by
  unfold cntBelow
  rw [List.countP_eq_length]
  intro y hy
  have := h y hy
  simp; omega
theorem below_zero (S : List Nat) : cntBelow S 0 = 0 := by
  unfold cntBelow
  rw [List.countP_eq_zero]
  intro y _; simp
theorem below_mono (S : List Nat) (x y : Nat) (h : x ≤ y) : cntBelow S x ≤ cntBelow S y := by
  unfold cntBelow
  apply List.countP_mono_left
  intro z _ hz
  simp only [decide_eq_true_eq] at hz ⊢
  omega
theorem below_succ (S : List Nat) (x : Nat) : cntBelow S (x + 1) = cntBelow S x + (S.filter (· == x)).length := by
  unfold cntBelow
  induction S with
  | nil => rfl
  | cons y S ih =>
    rw [List.countP_cons, List.countP_cons, ih, List.filter_cons]
    by_cases h : y = x
    · subst h
      simp; omega
    · have : (y == x) = false := by simpa using h
      rw [this]
      simp only [decide_eq_true_eq, Bool.false_eq_true, if_false]
      split <;> split <;> omega
/-- The number at place k of the sorted list. -/
def IsKth (S : List Nat) (k n : Nat) : Prop := cntBelow S n ≤ k ∧ k < cntBelow S (n + 1)
theorem IsKth.mem {S : List Nat} {k n : Nat} (h : IsKth S k n) : n ∈ S := by
  obtain ⟨h1, h2⟩ := h
  rw [below_succ] at h2
  have : 0 < (S.filter (· == n)).length := by omega
  obtain ⟨y, hy⟩ := List.exists_mem_of_length_pos this
  have h3 := List.mem_filter.1 hy
  have h4 : y = n := by simpa using h3.2
  exact h4 ▸ h3.1
theorem IsKth.mono {S : List Nat} {k k' n m : Nat} (h : IsKth S k n) (g : IsKth S k' m) (hk : k ≤ k') : n ≤ m := by
  rcases Nat.lt_or_ge m n with e | e
  · have := below_mono S (m + 1) n (by omega)
    have h1 := h.1
    have g2 := g.2
    omega
  · exact e
theorem below_perm {S T : List Nat} (h : S.Perm T) (x : Nat) : cntBelow S x = cntBelow T x := h.countP_eq _
theorem IsKth.perm {S T : List Nat} {k n : Nat} (h : IsKth S k n) (hp : S.Perm T) : IsKth T k n := by
  unfold IsKth at *
  rwa [← below_perm hp, ← below_perm hp]
attribute [irreducible] dwn lst rowAt stepL rowL sg cntBelow same lessK
end Go.Proofs.YtedchegejalolaaGreatDoor

/- Plain facts on points in a rectangle, counted along an order by x. -/
namespace Go.Proofs.YtedchegejalolaaGreatDoor
set_option linter.unusedVariables false
open Go.RowKit

/-- A point stands in a rectangle. -/
def inR (X0 Y0 X1 Y1 : Int) (p : Pt) : Bool := decide (X0 ≤ p.x ∧ p.x ≤ X1 ∧ Y0 ≤ p.y ∧ p.y ≤ Y1)
/-- How many points stand in a rectangle. -/
def cntR (L : List Pt) (X0 Y0 X1 Y1 : Int) : Nat := L.countP (inR X0 Y0 X1 Y1)

/-- Of a list with rising x what stands from a to b is what has an x between. -/
theorem range_cnt (S : List Pt) (X0 X1 : Int) (a b : Nat) (hs : ∀ i j (h : i < j) (hj : j < S.length), (S[i]'(by omega)).x ≤ S[j].x) (ha : a ≤ S.length) (hb : b ≤ S.length)
    (a1 : ∀ i (h : i < S.length), i < a → S[i].x < X0) (a2 : ∀ h : a < S.length, X0 ≤ S[a].x)
    (b1 : ∀ i (h : i < S.length), i < b → S[i].x ≤ X1) (b2 : ∀ h : b < S.length, X1 < S[b].x) (q : Pt → Bool) :
    ((S.take (max a b)).drop a).countP q = S.countP (fun p => decide (X0 ≤ p.x ∧ p.x ≤ X1) && q p) := by
  have e1 : S = S.take a ++ ((S.take (max a b)).drop a ++ S.drop (max a b)) := by
    have h1 := List.take_append_drop (max a b) S
    have h2 := List.take_append_drop a (S.take (max a b))
    rw [List.take_take, Nat.min_eq_left (Nat.le_max_left a b)] at h2
    rw [← List.append_assoc, h2, h1]
  have f1 : (S.take a).countP (fun p => decide (X0 ≤ p.x ∧ p.x ≤ X1) && q p) = 0 := by
    rw [List.countP_eq_zero]
    intro p hp
    obtain ⟨i, hi, rfl⟩ := List.getElem_of_mem hp
    rw [List.length_take] at hi
    have := a1 i (by omega) (by omega)
    rw [List.getElem_take]
    have h3 : ¬ X0 ≤ S[i].x := by omega
    simp [h3]
  have f3 : (S.drop (max a b)).countP (fun p => decide (X0 ≤ p.x ∧ p.x ≤ X1) && q p) = 0 := by
    rw [List.countP_eq_zero]
    intro p hp
    obtain ⟨i, hi, rfl⟩ := List.getElem_of_mem hp
    rw [List.length_drop] at hi
    rw [List.getElem_drop]
    have h4 : b < S.length := by omega
    have h5 := b2 h4
    have h6 : S[b].x ≤ (S[max a b + i]'(by omega)).x := by
      rcases Nat.eq_or_lt_of_le (show b ≤ max a b + i by omega) with e | e
      · simp only [← e]; exact Int.le_refl _
      · exact hs b (max a b + i) e (by omega)
    have h3 : ¬ (S[max a b + i]'(by omega)).x ≤ X1 := by omega
    simp [h3]
  have f2 : ((S.take (max a b)).drop a).countP (fun p => decide (X0 ≤ p.x ∧ p.x ≤ X1) && q p) = ((S.take (max a b)).drop a).countP q := by
    apply List.countP_congr
    intro p hp
    obtain ⟨i, hi, rfl⟩ := List.getElem_of_mem hp
    rw [List.length_drop, List.length_take] at hi
    rw [List.getElem_drop, List.getElem_take]
    have h4 : a + i < b := by omega
    have h5 := b1 (a + i) (by omega) h4
    have h6 := a2 (by omega)
    have h7 : S[a].x ≤ S[a + i].x := by
      rcases Nat.eq_or_lt_of_le (show a ≤ a + i by omega) with e | e
      · simp only [← e]; exact Int.le_refl _
      · exact hs a (a + i) e (by omega)
    have h8 : X0 ≤ S[a + i].x := by omega
    simp [h5, h8]
  conv => rhs; rw [e1]
  rw [List.countP_append, List.countP_append, f1, f2, f3]
  omega

/-- What is at most Y1, less what is below Y0. -/
theorem two_cnt (M : List Pt) (Y0 Y1 : Int) : max 0 (((M.countP fun p => decide (p.y ≤ Y1) : Nat) : Int) - ((M.countP fun p => decide (p.y < Y0) : Nat) : Int)) = ((M.countP fun p => decide (Y0 ≤ p.y ∧ p.y ≤ Y1) : Nat) : Int) := by
  by_cases h : Y0 ≤ Y1
  · have : M.countP (fun p => decide (p.y ≤ Y1)) = M.countP (fun p => decide (p.y < Y0)) + M.countP (fun p => decide (Y0 ≤ p.y ∧ p.y ≤ Y1)) := by
      induction M with
      | nil => rfl
      | cons p M ih =>
        simp only [List.countP_cons, decide_eq_true_eq]
        split <;> split <;> split <;> omega
    omega
  · have : M.countP (fun p => decide (p.y ≤ Y1)) ≤ M.countP (fun p => decide (p.y < Y0)) ∧ M.countP (fun p => decide (Y0 ≤ p.y ∧ p.y ≤ Y1)) = 0 := by
      induction M with
      | nil => exact ⟨Nat.le_refl _, rfl⟩
      | cons p M ih =>
        simp only [List.countP_cons, decide_eq_true_eq]
        split <;> split <;> split <;> omega
    omega

/-- Ranks below a number's place count numbers below it. -/
theorem rank_cnt (q : Int → Bool) (V : List Int) (hV : Up V) (k : Nat) (k1 : ∀ i, i < k → i < V.length → q (V.getD i 0) = true) (k2 : ∀ i, k ≤ i → i < V.length → q (V.getD i 0) = false) (ys : List Int) (R : List Nat) (hl : R.length = ys.length)
    (hr : ∀ i, i < ys.length → R.getD i 0 < V.length ∧ V.getD (R.getD i 0) 0 = ys.getD i 0) :
    R.countP (fun r => decide (r < k)) = ys.countP q := by
  induction ys generalizing R with
  | nil =>
    have : R = [] := List.length_eq_zero_iff.1 (by simpa using hl)
    subst this; rfl
  | cons y ys ih =>
    cases R with
    | nil => simp at hl
    | cons r R =>
      have h0 := hr 0 (by simp)
      simp only [List.getD_cons_zero] at h0
      have h1 := ih R (by simpa using hl) (fun i hi => by
        have := hr (i + 1) (by simp; omega)
        simpa using this)
      rw [List.countP_cons, List.countP_cons, h1]
      congr 1
      rw [← h0.2]
      by_cases h : r < k
      · rw [k1 r h h0.1]; simp [h]
      · rw [k2 r (by omega) h0.1]; simp [h]

end Go.Proofs.YtedchegejalolaaGreatDoor


/- Plain facts on the checksum: it is affine. -/
import Derived.Test.YtmfmknpkeniifaaKeep
namespace Go.Proofs.Ytmfmknpkeniifaa
set_option linter.unusedVariables false

/-- One bit of the sum. -/
def crc1 (n : Nat) : Nat := (n / 2) ^^^ (if n % 2 = 1 then 3988292384 else 0)
def crcN : Nat → Nat → Nat
  | 0, n => n
  | k + 1, n => crc1 (crcN k n)
/-- One byte of the sum. -/
def crcB (n x : Nat) : Nat := crcN 8 (n ^^^ x)
def crcL (l : List Nat) : Nat := l.foldl crcB 4294967295
def crc (l : List Nat) : Nat := 4294967295 - crcL l

theorem crc1_lt (n : Nat) (h : n < 4294967296) : crc1 n < 4294967296 := by
  unfold crc1
  exact Nat.xor_lt_two_pow (n := 32) (by omega) (by split <;> omega)
theorem crcN_lt (k n : Nat) (h : n < 4294967296) : crcN k n < 4294967296 := by
  induction k with
  | zero => exact h
  | succ k ih => exact crc1_lt _ ih
theorem crcB_lt (n x : Nat) (h : n < 4294967296) (hx : x < 256) : crcB n x < 4294967296 := crcN_lt 8 _ (Nat.xor_lt_two_pow (n := 32) h (by omega))
theorem crcL_lt (l : List Nat) (h : ∀ x ∈ l, x < 256) : crcL l < 4294967296 := by
  have : ∀ (l : List Nat) (n : Nat), (∀ x ∈ l, x < 256) → n < 4294967296 → l.foldl crcB n < 4294967296 := by
    intro l
    induction l with
    | nil => intro n _ hn; exact hn
    | cons x l ih => intro n hl hn; exact ih _ (fun y hy => hl y (List.mem_cons_of_mem _ hy)) (crcB_lt n x hn (hl x (by simp)))
  exact this l _ h (by omega)

theorem xor4 (a b c d : Nat) : (a ^^^ b) ^^^ (c ^^^ d) = (a ^^^ c) ^^^ (b ^^^ d) := by
  rw [Nat.xor_assoc, Nat.xor_assoc, ← Nat.xor_assoc b, ← Nat.xor_assoc c, Nat.xor_comm b c]
theorem xor_half (x y : Nat) : (x ^^^ y) / 2 = x / 2 ^^^ y / 2 := Nat.xor_div_two_pow (n := 1)
theorem xor_bit (x y : Nat) : (x ^^^ y) % 2 = if x % 2 = y % 2 then 0 else 1 := by
  have h : (x ^^^ y) % 2 ^ 1 = (x % 2 ^ 1) ^^^ (y % 2 ^ 1) := Nat.xor_mod_two_pow
  simp only [Nat.pow_one] at h
  rw [h]
  rcases Nat.mod_two_eq_zero_or_one x with hx | hx <;> rcases Nat.mod_two_eq_zero_or_one y with hy | hy <;> simp [hx, hy]
theorem crc1_xor (a b : Nat) : crc1 (a ^^^ b) = crc1 a ^^^ crc1 b := by
  unfold crc1
  rw [xor4, xor_half, xor_bit]
  congr 1
  rcases Nat.mod_two_eq_zero_or_one a with hx | hx <;> rcases Nat.mod_two_eq_zero_or_one b with hy | hy <;> simp [hx, hy]
theorem crcN_xor (k a b : Nat) : crcN k (a ^^^ b) = crcN k a ^^^ crcN k b := by
  induction k with
  | zero => rfl
  | succ k ih => simp only [crcN, ih, crc1_xor]
theorem crcB_xor (a b x y : Nat) : crcB (a ^^^ b) (x ^^^ y) = crcB a x ^^^ crcB b y := by
  unfold crcB
  rw [xor4, crcN_xor]

def xor3 (a b c : List Nat) : List Nat := List.zipWith (fun z x => z ^^^ x) (List.zipWith (fun x y => x ^^^ y) a b) c
theorem fold_xor (a b : List Nat) (h : a.length = b.length) : ∀ s t, (List.zipWith (fun x y => x ^^^ y) a b).foldl crcB (s ^^^ t) = a.foldl crcB s ^^^ b.foldl crcB t := by
  induction a generalizing b with
  | nil => intro s t; cases b with
    | nil => rfl
    | cons y b => simp at h
  | cons x a ih =>
    cases b with
    | nil => simp at h
    | cons y b =>
      intro s t
      simp only [List.zipWith_cons_cons, List.foldl_cons, crcB_xor]
      exact ih b (by simpa using h) _ _
theorem crcL_xor3 (a b c : List Nat) (h1 : a.length = b.length) (h2 : c.length = b.length) : crcL (xor3 a b c) = crcL a ^^^ crcL b ^^^ crcL c := by
  unfold crcL xor3
  have e : (4294967295 : Nat) = (4294967295 ^^^ 4294967295) ^^^ 4294967295 := by decide
  have e2 := fold_xor (List.zipWith (fun x y => x ^^^ y) a b) c (by simp; omega) (4294967295 ^^^ 4294967295) 4294967295
  rw [fold_xor a b h1, ← e] at e2
  exact e2
theorem ones_sub (x : Nat) (h : x < 4294967296) : 4294967295 - x = 4294967295 ^^^ x := by
  have h1 := congrArg BitVec.toNat (BitVec.xor_allOnes (x := BitVec.ofNat 32 x))
  rw [BitVec.toNat_xor, BitVec.toNat_not, BitVec.toNat_allOnes, BitVec.toNat_ofNat, Nat.mod_eq_of_lt (by omega)] at h1
  rw [Nat.xor_comm]
  exact h1.symm
theorem xor_three (o a b c : Nat) : o ^^^ (a ^^^ b ^^^ c) = (o ^^^ a) ^^^ (o ^^^ b) ^^^ (o ^^^ c) := by
  apply Nat.eq_of_testBit_eq
  intro i
  simp only [Nat.testBit_xor]
  cases o.testBit i <;> cases a.testBit i <;> cases b.testBit i <;> cases c.testBit i <;> rfl
theorem crc_xor3 (a b c : List Nat) (h1 : a.length = b.length) (h2 : c.length = b.length) (ha : ∀ x ∈ a, x < 256) (hb : ∀ x ∈ b, x < 256) (hc : ∀ x ∈ c, x < 256) (hd : ∀ x ∈ xor3 a b c, x < 256) :
    crc (xor3 a b c) = crc a ^^^ crc b ^^^ crc c := by
  unfold crc
  rw [ones_sub _ (crcL_lt _ hd), ones_sub _ (crcL_lt _ ha), ones_sub _ (crcL_lt _ hb), ones_sub _ (crcL_lt _ hc), crcL_xor3 a b c h1 h2]
  exact xor_three _ _ _ _
set_option maxRecDepth 10000 in
theorem crc_check : crc [49, 50, 51, 52, 53, 54, 55, 56, 57] = 3421780262 := by decide +kernel
theorem crc_lt (l : List Nat) : crc l < 4294967296 := by unfold crc; omega
theorem crcB_eq (n x : Nat) : crcB n x = crcN 8 (n ^^^ x) := rfl
theorem crcN_zero (n : Nat) : crcN 0 n = n := rfl
theorem crcN_odd (k n v : Nat) (h : v = crcN k n) (hv : v % 2 = 1) : (v / 2) ^^^ 3988292384 = crcN (k + 1) n := by simp only [crcN, ← h, crc1, hv, if_true]
theorem crcN_even (k n v : Nat) (h : v = crcN k n) (hv : v % 2 = 0) : v / 2 = crcN (k + 1) n := by simp [crcN, ← h, crc1, hv]
theorem crc_eq (l : List Nat) (n : Nat) (h : n = l.foldl crcB 4294967295) : crc l = 4294967295 - n := by rw [h]; rfl
theorem crcN_succ (k n : Nat) : crcN (k + 1) n = crc1 (crcN k n) := rfl
attribute [irreducible] crc crcL crcB crcN crc1

end Go.Proofs.Ytmfmknpkeniifaa

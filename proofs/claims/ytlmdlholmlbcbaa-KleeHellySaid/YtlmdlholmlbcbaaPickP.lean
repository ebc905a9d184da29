/- Pick's law, in plain Lean: the lattice points of a polygon; what has a place more is larger. -/
import Derived.Test.YtlmdlholmlbcbaaPtP
namespace Go.Proofs.Ytlmdlholmlbcbaa.Pick
set_option linter.unusedVariables false
def sumN : Nat → (Nat → Int) → Int
  | 0, _ => 0
  | n + 1, f => sumN n f + f n
theorem sumN_congr {f g : Nat → Int} : ∀ n, (∀ i, i < n → f i = g i) → sumN n f = sumN n g
  | 0, _ => rfl
  | n + 1, h => by
    show sumN n f + f n = sumN n g + g n
    rw [sumN_congr n (fun i hi => h i (by omega)), h n (by omega)]
theorem sumN_add (f g : Nat → Int) : ∀ n, sumN n (fun i => f i + g i) = sumN n f + sumN n g
  | 0 => rfl
  | n + 1 => by
    show sumN n _ + (f n + g n) = (sumN n f + f n) + (sumN n g + g n)
    rw [sumN_add f g n]; omega
theorem sumN_sub (f g : Nat → Int) : ∀ n, sumN n (fun i => f i - g i) = sumN n f - sumN n g
  | 0 => rfl
  | n + 1 => by
    show sumN n _ + (f n - g n) = (sumN n f + f n) - (sumN n g + g n)
    rw [sumN_sub f g n]; omega
theorem sumN_const (c : Int) : ∀ n : Nat, sumN n (fun _ => c) = n * c
  | 0 => by simp [sumN]
  | n + 1 => by
    show sumN n _ + c = _
    rw [sumN_const c n]
    have : ((n + 1 : Nat) : Int) * c = n * c + c := by
      rw [Int.natCast_add, Int.add_mul]; simp
    omega
theorem sumN_le {f g : Nat → Int} : ∀ n, (∀ i, i < n → f i ≤ g i) → sumN n f ≤ sumN n g
  | 0, _ => Int.le_refl _
  | n + 1, h => by
    show sumN n f + f n ≤ sumN n g + g n
    have := sumN_le n (fun i hi => h i (by omega))
    have := h n (by omega)
    omega
theorem sumN_zero {f : Nat → Int} (n : Nat) (h : ∀ i, i < n → f i = 0) : sumN n f = 0 := by
  rw [sumN_congr n h, sumN_const]; simp
theorem sumN_cat (f : Nat → Int) (m : Nat) : ∀ n, sumN (m + n) f = sumN m f + sumN n (fun i => f (m + i))
  | 0 => by simp [sumN]
  | n + 1 => by
    show sumN (m + n) f + f (m + n) = sumN m f + (sumN n _ + f (m + n))
    rw [sumN_cat f m n]; omega
theorem sumN_front (f : Nat → Int) (n : Nat) : sumN (n + 1) f = f 0 + sumN n (fun i => f (i + 1)) := by
  rw [Nat.add_comm n 1, sumN_cat f 1 n]
  show (0 + f 0) + _ = _
  rw [Int.zero_add]
  congr 1
  exact sumN_congr n (fun i _ => by rw [Nat.add_comm])
theorem sumN_rev : ∀ (n : Nat) (f : Nat → Int), sumN n f = sumN n (fun i => f (n - 1 - i))
  | 0, _ => rfl
  | n + 1, f => by
    rw [sumN_front, sumN_rev n (fun i => f (i + 1))]
    show _ = sumN n _ + f (n + 1 - 1 - n)
    rw [show n + 1 - 1 - n = 0 by omega, Int.add_comm]
    congr 1
    exact sumN_congr n (fun i hi => by rw [show n - 1 - i + 1 = n + 1 - 1 - i by omega])

/-- Multiples of m among the first g * m numbers. -/
theorem count_mult (m : Nat) (hm : 0 < m) : ∀ g : Nat, sumN (g * m) (fun i => if m ∣ i then 1 else 0) = g
  | 0 => by simp [sumN]
  | g + 1 => by
    rw [Nat.succ_mul, sumN_cat, count_mult m hm g]
    obtain ⟨k, rfl⟩ : ∃ k, m = k + 1 := ⟨m - 1, by omega⟩
    rw [sumN_front]
    have h1 : (if k + 1 ∣ g * (k + 1) + 0 then (1 : Int) else 0) = 1 := if_pos (by rw [Nat.add_zero]; exact Nat.dvd_mul_left _ _)
    rw [h1, sumN_zero k]
    · omega
    · intro i hi
      refine if_neg (fun h => ?_)
      have h2 : k + 1 ∣ i + 1 := (Nat.dvd_add_right (Nat.dvd_mul_left _ _)).1 h
      have := Nat.le_of_dvd (by omega) h2
      omega
theorem dvd_iff (m : Nat) (d : Int) (i : Nat) (hm : 0 < m) : ((m : Int) ∣ d * i) ↔ m / Nat.gcd m d.natAbs ∣ i := by
  have hg : 0 < Nat.gcd m d.natAbs := Nat.gcd_pos_of_pos_left _ hm
  have e : ((m : Int) ∣ d * i) ↔ m ∣ d.natAbs * i := by
    rw [← Int.natAbs_dvd_natAbs]
    simp [Int.natAbs_mul]
  rw [e]
  obtain ⟨m', hm'⟩ := Nat.gcd_dvd_left m d.natAbs
  obtain ⟨d', hd'⟩ := Nat.gcd_dvd_right m d.natAbs
  have hc : Nat.Coprime (m / Nat.gcd m d.natAbs) (d.natAbs / Nat.gcd m d.natAbs) := Nat.coprime_div_gcd_div_gcd hg
  generalize Nat.gcd m d.natAbs = g at *
  have e1 : m / g = m' := by rw [hm']; exact Nat.mul_div_cancel_left _ hg
  have e2 : d.natAbs / g = d' := by rw [hd']; exact Nat.mul_div_cancel_left _ hg
  rw [e1, e2] at hc
  rw [e1, hd']
  constructor
  · intro h
    rw [hm', Nat.mul_assoc] at h
    have h := Nat.dvd_of_mul_dvd_mul_left hg h
    exact hc.dvd_of_dvd_mul_left h
  · intro h
    rw [hm', Nat.mul_assoc]
    exact Nat.mul_dvd_mul_left _ (Nat.dvd_trans h (Nat.dvd_mul_left _ _))
theorem count_dvd (m : Nat) (d : Int) (hm : 0 < m) : sumN m (fun i => if (m : Int) ∣ d * i then 1 else 0) = Nat.gcd m d.natAbs := by
  have hg : 0 < Nat.gcd m d.natAbs := Nat.gcd_pos_of_pos_left _ hm
  have e : sumN m (fun i => if (m : Int) ∣ d * i then 1 else 0) = sumN m (fun i => if m / Nat.gcd m d.natAbs ∣ i then 1 else 0) := by
    refine sumN_congr m (fun i _ => ?_)
    by_cases h : m / Nat.gcd m d.natAbs ∣ i
    · rw [if_pos h, if_pos ((dvd_iff m d i hm).2 h)]
    · rw [if_neg h, if_neg (fun h2 => h ((dvd_iff m d i hm).1 h2))]
  rw [e]
  have h := Nat.div_mul_cancel (Nat.gcd_dvd_left m d.natAbs)
  have hp : 0 < m / Nat.gcd m d.natAbs := Nat.div_pos (Nat.le_of_dvd hm (Nat.gcd_dvd_left _ _)) hg
  have := count_mult (m / Nat.gcd m d.natAbs) hp (Nat.gcd m d.natAbs)
  rw [Nat.mul_comm, h] at this
  exact this

def flS (m : Nat) (d : Int) : Int := sumN m (fun i => (d * i) / m)
def ceS (m : Nat) (d : Int) : Int := sumN m (fun i => -((-(d * i)) / m))
theorem fl_ce (m : Nat) (d : Int) (hm : 0 < m) : flS m d + ceS m d = (m - 1) * d := by
  obtain ⟨k, rfl⟩ : ∃ k, m = k + 1 := ⟨m - 1, by omega⟩
  unfold flS ceS
  rw [sumN_front, sumN_front]
  rw [sumN_rev k (fun i => -((-(d * ((i + 1 : Nat) : Int))) / ((k + 1 : Nat) : Int)))]
  have e : sumN k (fun i => -((-(d * ((k - 1 - i + 1 : Nat) : Int))) / ((k + 1 : Nat) : Int))) = sumN k (fun i => d - (d * ((i + 1 : Nat) : Int)) / ((k + 1 : Nat) : Int)) := by
    refine sumN_congr k (fun i hi => ?_)
    have h1 : ((k - 1 - i + 1 : Nat) : Int) = ((k + 1 : Nat) : Int) - ((i + 1 : Nat) : Int) := by omega
    rw [h1]
    have h2 : -(d * (((k + 1 : Nat) : Int) - ((i + 1 : Nat) : Int))) = d * ((i + 1 : Nat) : Int) + (-d) * ((k + 1 : Nat) : Int) := by
      rw [Int.mul_sub, Int.neg_mul]; omega
    rw [h2, Int.add_mul_ediv_right _ _ (by omega)]
    omega
  rw [e, sumN_sub, sumN_const]
  simp only [Int.natCast_add, Int.natCast_zero, Int.mul_zero, Int.neg_zero, Int.zero_ediv, Int.zero_add, Int.natCast_one]
  rw [show ((k : Int) + 1 - 1) = k by omega]
  omega
theorem ce_fl (m : Nat) (d : Int) (hm : 0 < m) : ceS m d - flS m d = m - Nat.gcd m d.natAbs := by
  unfold flS ceS
  rw [← sumN_sub, ← count_dvd m d hm]
  have h1 : (m : Int) = sumN m (fun _ => 1) := by rw [sumN_const]; omega
  have h2 : (m : Int) - sumN m (fun i => if (m : Int) ∣ d * i then 1 else 0) = sumN m (fun _ => 1) - sumN m (fun i => if (m : Int) ∣ d * i then 1 else 0) := by rw [← h1]
  rw [h2, ← sumN_sub]
  refine sumN_congr m (fun i _ => ?_)
  generalize d * (i : Int) = a
  have hmz : (0 : Int) < m := by omega
  by_cases h : (m : Int) ∣ a
  · rw [if_pos h, Int.neg_ediv_of_dvd h]; omega
  · rw [if_neg h]
    have e1 := Int.mul_ediv_add_emod a m
    have e2 := Int.mul_ediv_add_emod (-a) m
    have r1 := Int.emod_nonneg a (show (m : Int) ≠ 0 by omega)
    have r2 := Int.emod_lt_of_pos a hmz
    have s1 := Int.emod_nonneg (-a) (show (m : Int) ≠ 0 by omega)
    have s2 := Int.emod_lt_of_pos (-a) hmz
    have hne : a % m ≠ 0 := fun e => h (Int.dvd_of_emod_eq_zero e)
    have e3 : (m : Int) * (a / m + (-a) / m + 1) = m - a % m - (-a) % m := by
      rw [Int.mul_add, Int.mul_add, Int.mul_one]; omega
    have e4 : a / m + (-a) / m + 1 = 0 := by
      generalize a / (m : Int) + (-a) / m + 1 = t at *
      by_cases h1 : 1 ≤ t
      · have := Int.mul_le_mul_of_nonneg_left h1 (Int.le_of_lt hmz)
        omega
      · by_cases h2 : t ≤ -1
        · have := Int.mul_le_mul_of_nonneg_left h2 (Int.le_of_lt hmz)
          omega
        · omega
    omega
theorem fl_eq (m : Nat) (d : Int) (hm : 0 < m) : 2 * flS m d = m * d - d - m + Nat.gcd m d.natAbs := by
  have h1 := fl_ce m d hm
  have h2 := ce_fl m d hm
  rw [Int.sub_mul, Int.one_mul] at h1
  omega
theorem ce_eq (m : Nat) (d : Int) (hm : 0 < m) : 2 * ceS m d = m * d - d + m - Nat.gcd m d.natAbs := by
  have h1 := fl_ce m d hm
  have h2 := ce_fl m d hm
  rw [Int.sub_mul, Int.one_mul] at h1
  omega
def tz (a b : Pt) (x y : Int) : Int := (b.x - a.x) * (y - a.y) - (b.y - a.y) * (x - a.x)
def cnt (p : Int → Int → Bool) (lo : Int) (n : Nat) : Int := sumN n (fun i => sumN n (fun j => if p (lo + i) (lo + j) then 1 else 0))
theorem ce_le (a t m : Int) (hm : 0 < m) : -((-a) / m) ≤ t ↔ a ≤ m * t := by
  have h := Int.le_ediv_iff_mul_le (a := -t) (b := -a) hm
  rw [Int.neg_mul, Int.mul_comm t m] at h
  omega
theorem fl_ge (a t m : Int) (hm : 0 < m) : t ≤ a / m ↔ m * t ≤ a := by
  have h := Int.le_ediv_iff_mul_le (a := t) (b := a) hm
  rw [Int.mul_comm t m] at h
  exact h
theorem col_count (p : Int → Bool) (lo A B : Int) (n : Nat) (h1 : lo ≤ A) (h2 : A ≤ B + 1) (h3 : B < lo + n) (hp : ∀ j : Nat, j < n → (p (lo + j) = true ↔ A ≤ lo + j ∧ lo + j ≤ B)) :
    sumN n (fun j => if p (lo + j) then 1 else 0) = B - A + 1 := by
  obtain ⟨a, ha⟩ : ∃ a : Nat, (a : Int) = A - lo := ⟨(A - lo).toNat, by omega⟩
  obtain ⟨b, hb⟩ : ∃ b : Nat, (b : Int) = B - A + 1 := ⟨(B - A + 1).toNat, by omega⟩
  obtain ⟨c, hc⟩ : ∃ c : Nat, (c : Int) = lo + n - 1 - B := ⟨(lo + n - 1 - B).toNat, by omega⟩
  have hn : n = (a + b) + c := by omega
  rw [hn, sumN_cat, sumN_cat]
  rw [sumN_zero a (fun i hi => if_neg (fun h => by have := (hp i (by omega)).1 h; omega))]
  rw [sumN_zero c (fun i hi => if_neg (fun h => by have := (hp (a + b + i) (by omega)).1 h; omega))]
  rw [sumN_congr b (g := fun _ => 1) (fun i hi => if_pos ((hp (a + i) (by omega)).2 (by omega)))]
  rw [sumN_const]; omega
def inTri (a b c : Pt) (x y : Int) : Bool := decide (0 ≤ tz a b x y ∧ 0 ≤ tz b c x y ∧ 0 ≤ tz c a x y)
theorem inTri_iff (a b c : Pt) (x y : Int) : inTri a b c x y = true ↔ 0 ≤ tz a b x y ∧ 0 ≤ tz b c x y ∧ 0 ≤ tz c a x y := by
  unfold inTri; rw [decide_eq_true_eq]
def gcdP (a b : Pt) : Nat := Nat.gcd (b.x - a.x).natAbs (b.y - a.y).natAbs
theorem gcdP_comm (a b : Pt) : gcdP a b = gcdP b a := by
  unfold gcdP
  rw [show b.x - a.x = -(a.x - b.x) by omega, show b.y - a.y = -(a.y - b.y) by omega, Int.natAbs_neg, Int.natAbs_neg]
theorem pos_of_mul {m t : Int} (hm : 0 < m) (h : 0 ≤ m * t) : 0 ≤ t := by
  by_cases h1 : 0 ≤ t
  · exact h1
  · have := Int.mul_neg_of_pos_of_neg hm (show t < 0 by omega)
    omega
/-- A part of the way is within both ends. -/
theorem part_low {d i m t : Int} (hm : 0 < m) (hi : 0 ≤ i) (him : i ≤ m) (ht : t < 0) (hd : t < d) : m * t < d * i := by
  have h0 := Int.mul_neg_of_pos_of_neg hm ht
  by_cases h : 0 ≤ d
  · have := Int.mul_nonneg h hi
    omega
  · have h1 : d * m ≤ d * i := by
      exact Int.mul_le_mul_of_nonpos_left (show d ≤ 0 by omega) him
    have h2 : m * t < m * d := Int.mul_lt_mul_of_pos_left hd hm
    rw [Int.mul_comm d m] at h1
    omega
theorem part_up {d i m t : Int} (hm : 0 < m) (hi : 0 ≤ i) (him : i ≤ m) (ht : 0 < t) (hd : d < t) : d * i < m * t := by
  have := part_low (d := -d) (t := -t) hm hi him (by omega) (by omega)
  rw [Int.mul_neg, Int.neg_mul] at this
  omega
theorem id1 (m1 m2 d1 d2 i t : Int) : (m1 + m2) * (m1 * t - d1 * i) = m1 * ((m1 + m2) * t) - m1 * ((d1 + d2) * i) + (m1 * d2 - d1 * m2) * i := by grind
theorem id2 (m1 m2 d1 d2 i t : Int) : (m1 + m2) * (m2 * (t - d1) - d2 * i) = m2 * ((m1 + m2) * t) - m2 * ((d1 + d2) * (m1 + i)) + (m1 * d2 - d1 * m2) * (m2 - i) := by grind
theorem id3 (g1 g2 g3 D X p q r : Int) (h1 : g1 + g2 + g3 = D) (h2 : D * X = g2 * p + g3 * q + g1 * r) : (q - p) * g2 = D * (q - X) + g1 * (r - q) := by
  rw [Int.mul_sub, h2, ← h1]; grind
theorem id4 (g1 g2 g3 D X p q r : Int) (h1 : g1 + g2 + g3 = D) (h2 : D * X = g2 * p + g3 * q + g1 * r) : (r - q) * g1 = D * (X - q) + g2 * (q - p) := by
  rw [Int.mul_sub, h2, ← h1]; grind
/-- The lattice points of a triangle whose corners p, q, r stand so from left to right, q below. -/
theorem tri_one (p q r : Pt) (lo : Int) (n : Nat) (h1 : p.x < q.x) (h2 : q.x ≤ r.x) (h3 : q.x = r.x → q.y < r.y) (hD : 0 < tz p q r.x r.y)
    (bp : lo ≤ p.x ∧ p.x < lo + n ∧ lo ≤ p.y ∧ p.y < lo + n) (bq : lo ≤ q.x ∧ q.x < lo + n ∧ lo ≤ q.y ∧ q.y < lo + n) (br : lo ≤ r.x ∧ r.x < lo + n ∧ lo ≤ r.y ∧ r.y < lo + n) :
    2 * cnt (inTri p q r) lo n = tz p q r.x r.y + gcdP p q + gcdP q r + gcdP r p + 2 := by
  obtain ⟨m0, hm0⟩ : ∃ m0 : Nat, (m0 : Int) = p.x - lo := ⟨(p.x - lo).toNat, by omega⟩
  obtain ⟨m1, hm1⟩ : ∃ m1 : Nat, (m1 : Int) = q.x - p.x := ⟨(q.x - p.x).toNat, by omega⟩
  obtain ⟨m2, hm2⟩ : ∃ m2 : Nat, (m2 : Int) = r.x - q.x := ⟨(r.x - q.x).toNat, by omega⟩
  obtain ⟨m3, hm3⟩ : ∃ m3 : Nat, (m3 : Int) = lo + n - 1 - r.x := ⟨(lo + n - 1 - r.x).toNat, by omega⟩
  obtain ⟨d1, hd1⟩ : ∃ d1, d1 = q.y - p.y := ⟨_, rfl⟩
  obtain ⟨d2, hd2⟩ : ∃ d2, d2 = r.y - q.y := ⟨_, rfl⟩
  obtain ⟨D, hDe⟩ : ∃ D, D = tz p q r.x r.y := ⟨_, rfl⟩
  have eD : D = m1 * d2 - d1 * m2 := by rw [hDe, hm1, hm2, hd1, hd2]; unfold tz; grind
  have hn : n = m0 + m1 + m2 + 1 + m3 := by omega
  have e1 : ∀ x y, tz p q x y = m1 * (y - p.y) - d1 * (x - p.x) := fun x y => by rw [hm1, hd1]; rfl
  have e2 : ∀ x y, tz q r x y = m2 * (y - q.y) - d2 * (x - q.x) := fun x y => by rw [hm2, hd2]; rfl
  have e3 : ∀ x y, tz r p x y = (d1 + d2) * (x - p.x) - (m1 + m2) * (y - p.y) := fun x y => by rw [hm1, hm2, hd1, hd2]; unfold tz; grind
  have s1 : ∀ x y, tz p q x y + tz q r x y + tz r p x y = D := fun x y => by rw [hDe]; unfold tz; grind
  have sx : ∀ x y, D * x = tz q r x y * p.x + tz r p x y * q.x + tz p q x y * r.x := fun x y => by rw [hDe]; unfold tz; grind
  have g1 : (gcdP p q : Int) = Nat.gcd m1 d1.natAbs := by unfold gcdP; rw [← hm1, ← hd1]; simp
  have g2 : (gcdP q r : Int) = Nat.gcd m2 d2.natAbs := by unfold gcdP; rw [← hm2, ← hd2]; simp
  have g3 : (gcdP r p : Int) = Nat.gcd (m1 + m2) (d1 + d2).natAbs := by
    rw [gcdP_comm]; unfold gcdP
    rw [show r.x - p.x = ((m1 + m2 : Nat) : Int) by omega, show r.y - p.y = d1 + d2 by omega, Int.natAbs_natCast]
  have hm1p : 0 < m1 := by omega
  have z1 : (0 : Int) < m1 := by omega
  have z2 : (0 : Int) ≤ m2 := by omega
  have zm : (0 : Int) < m1 + m2 := by omega
  rw [← hDe] at hD
  rw [← hDe, g1, g2, g3]
  have c0 : ∀ i : Nat, i < m0 → sumN n (fun j => if inTri p q r (lo + i) (lo + j) then (1 : Int) else 0) = 0 := fun i hi => by
    refine sumN_zero n (fun j _ => if_neg (fun h => ?_))
    obtain ⟨a1, a2, a3⟩ := (inTri_iff _ _ _ _ _).1 h
    have b1 := sx (lo + i) (lo + j)
    have b2 := s1 (lo + i) (lo + j)
    generalize tz p q (lo + i) (lo + j) = f1 at *
    generalize tz q r (lo + i) (lo + j) = f2 at *
    generalize tz r p (lo + i) (lo + j) = f3 at *
    have c1 := Int.mul_nonneg a3 (show 0 ≤ q.x - p.x by omega)
    have c2 := Int.mul_nonneg a1 (show 0 ≤ r.x - p.x by omega)
    have c3 := Int.mul_pos hD (show 0 < p.x - (lo + i) by omega)
    have c4 : D * (p.x - (lo + i)) + f3 * (q.x - p.x) + f1 * (r.x - p.x) = 0 := by
      rw [Int.mul_sub, b1, ← b2]; grind
    omega
  have c4 : ∀ i : Nat, i < m3 → sumN n (fun j => if inTri p q r (lo + ((m0 + m1 + m2 + 1 + i : Nat) : Int)) (lo + j) then (1 : Int) else 0) = 0 := fun i hi => by
    refine sumN_zero n (fun j _ => if_neg (fun h => ?_))
    obtain ⟨a1, a2, a3⟩ := (inTri_iff _ _ _ _ _).1 h
    obtain ⟨X, hX⟩ : ∃ X : Int, X = lo + ((m0 + m1 + m2 + 1 + i : Nat) : Int) := ⟨_, rfl⟩
    rw [← hX] at a1 a2 a3
    have b1 := sx X (lo + j)
    have b2 := s1 X (lo + j)
    generalize tz p q X (lo + j) = f1 at *
    generalize tz q r X (lo + j) = f2 at *
    generalize tz r p X (lo + j) = f3 at *
    have c1 := Int.mul_nonneg a3 (show 0 ≤ r.x - q.x by omega)
    have c2 := Int.mul_nonneg a2 (show 0 ≤ r.x - p.x by omega)
    have c3 := Int.mul_pos hD (show 0 < X - r.x by omega)
    have c4 : D * (X - r.x) + f3 * (r.x - q.x) + f2 * (r.x - p.x) = 0 := by
      rw [Int.mul_sub, b1, ← b2]; grind
    omega
  have c1 : ∀ i : Nat, i < m1 → sumN n (fun j => if inTri p q r (lo + ((m0 + i : Nat) : Int)) (lo + j) then (1 : Int) else 0) = (((d1 + d2) * i) / ((m1 + m2 : Nat) : Int) - -((-(d1 * i)) / m1)) + 1 := fun i hi => by
    have hX : lo + ((m0 + i : Nat) : Int) = p.x + i := by omega
    rw [hX]
    have hi0 : (0 : Int) ≤ i := by omega
    have k1 : ((m1 + m2 : Nat) : Int) = m1 + m2 := by omega
    rw [k1]
    obtain ⟨A, hA⟩ : ∃ A, A = -((-(d1 * i)) / (m1 : Int)) := ⟨_, rfl⟩
    obtain ⟨B, hB⟩ : ∃ B, B = ((d1 + d2) * i) / ((m1 : Int) + m2) := ⟨_, rfl⟩
    have hAl : ∀ t, A ≤ t ↔ d1 * i ≤ m1 * t := fun t => by rw [hA]; exact ce_le _ _ _ z1
    have hBl : ∀ t, t ≤ B ↔ (m1 + m2) * t ≤ (d1 + d2) * i := fun t => by rw [hB]; exact fl_ge _ _ _ zm
    rw [← hA, ← hB]
    have := col_count (fun y => inTri p q r (p.x + i) y) lo (p.y + A) (p.y + B) n ?_ ?_ ?_ ?_
    · rw [this]; omega
    · have h := part_low (d := d1) (i := i) (m := m1) (t := lo - 1 - p.y) z1 hi0 (by omega) (by omega) (by omega)
      have h2 := hAl (lo - 1 - p.y)
      omega
    · have h := (hAl (B + 1)).2 ?_
      · omega
      · have h2 := hBl (B + 1)
        have h3 : (d1 + d2) * i < (m1 + m2) * (B + 1) := by omega
        have h4 := Int.mul_nonneg (Int.le_of_lt hD) hi0
        have h5 : m1 * ((d1 + d2) * i) < m1 * ((m1 + m2) * (B + 1)) := Int.mul_lt_mul_of_pos_left h3 z1
        have h6 : 0 ≤ (m1 + m2) * (m1 * (B + 1) - d1 * i) := by rw [id1 (m1 : Int) m2 d1 d2 i (B + 1), ← eD]; omega
        have := pos_of_mul zm h6
        omega
    · have h := part_up (d := d1 + d2) (i := i) (m := m1 + m2) (t := lo + n - p.y) zm hi0 (by omega) (by omega) (by omega)
      have h2 := hBl (lo + n - p.y)
      omega
    · intro j hj
      rw [inTri_iff]
      have f1 := e1 (p.x + i) (lo + j)
      have f3 := e3 (p.x + i) (lo + j)
      have q1 := hAl (lo + j - p.y)
      have q2 := hBl (lo + j - p.y)
      rw [show p.x + (i : Int) - p.x = i by omega] at f1 f3
      constructor
      · rintro ⟨a1, a2, a3⟩
        omega
      · intro ⟨a1, a2⟩
        have a1' : 0 ≤ tz p q (p.x + i) (lo + j) := by omega
        have a3' : 0 ≤ tz r p (p.x + i) (lo + j) := by omega
        refine ⟨a1', ?_, a3'⟩
        have b1 := sx (p.x + i) (lo + j)
        have b2 := s1 (p.x + i) (lo + j)
        generalize tz p q (p.x + i) (lo + j) = g1 at *
        generalize tz q r (p.x + i) (lo + j) = g2 at *
        generalize tz r p (p.x + i) (lo + j) = g3 at *
        have w1 := Int.mul_nonneg a1' (show 0 ≤ r.x - q.x by omega)
        have w2 := Int.mul_nonneg (Int.le_of_lt hD) (show 0 ≤ q.x - (p.x + i) by omega)
        have w3 : 0 ≤ (q.x - p.x) * g2 := by rw [id3 g1 g2 g3 D _ p.x q.x r.x b2 b1]; omega
        exact pos_of_mul (by omega) w3
  have c2 : ∀ i : Nat, i < m2 → sumN n (fun j => if inTri p q r (lo + ((m0 + m1 + i : Nat) : Int)) (lo + j) then (1 : Int) else 0) = (((d1 + d2) * ((m1 + i : Nat) : Int)) / ((m1 + m2 : Nat) : Int) - -((-(d2 * i)) / m2)) + (1 - d1) := fun i hi => by
    have hX : lo + ((m0 + m1 + i : Nat) : Int) = q.x + i := by omega
    rw [hX]
    have hi0 : (0 : Int) ≤ i := by omega
    have z2' : (0 : Int) < m2 := by omega
    have k1 : ((m1 + m2 : Nat) : Int) = m1 + m2 := by omega
    have k2 : ((m1 + i : Nat) : Int) = m1 + i := by omega
    rw [k1, k2]
    obtain ⟨A, hA⟩ : ∃ A, A = -((-(d2 * i)) / (m2 : Int)) := ⟨_, rfl⟩
    obtain ⟨B, hB⟩ : ∃ B, B = ((d1 + d2) * ((m1 : Int) + i)) / ((m1 : Int) + m2) := ⟨_, rfl⟩
    have hAl : ∀ t, A ≤ t ↔ d2 * i ≤ m2 * t := fun t => by rw [hA]; exact ce_le _ _ _ z2'
    have hBl : ∀ t, t ≤ B ↔ (m1 + m2) * t ≤ (d1 + d2) * (m1 + i) := fun t => by rw [hB]; exact fl_ge _ _ _ zm
    rw [← hA, ← hB]
    have := col_count (fun y => inTri p q r (q.x + i) y) lo (q.y + A) (p.y + B) n ?_ ?_ ?_ ?_
    · rw [this]; omega
    · have h := part_low (d := d2) (i := i) (m := m2) (t := lo - 1 - q.y) z2' hi0 (by omega) (by omega) (by omega)
      have h2 := hAl (lo - 1 - q.y)
      omega
    · have h := (hAl (B + 1 - d1)).2 ?_
      · omega
      · have h2 := hBl (B + 1)
        have h3 : (d1 + d2) * (m1 + i) < (m1 + m2) * (B + 1) := by omega
        have h4 := Int.mul_nonneg (Int.le_of_lt hD) (show (0 : Int) ≤ m2 - i by omega)
        have h5 : m2 * ((d1 + d2) * (m1 + i)) < m2 * ((m1 + m2) * (B + 1)) := Int.mul_lt_mul_of_pos_left h3 z2'
        have h6 : 0 ≤ (m1 + m2) * (m2 * (B + 1 - d1) - d2 * i) := by rw [id2 (m1 : Int) m2 d1 d2 i (B + 1), ← eD]; omega
        have := pos_of_mul zm h6
        omega
    · have h := part_up (d := d1 + d2) (i := m1 + i) (m := m1 + m2) (t := lo + n - p.y) zm (by omega) (by omega) (by omega) (by omega)
      have h2 := hBl (lo + n - p.y)
      omega
    · intro j hj
      rw [inTri_iff]
      have f2 := e2 (q.x + i) (lo + j)
      have f3 := e3 (q.x + i) (lo + j)
      have q1 := hAl (lo + j - q.y)
      have q2 := hBl (lo + j - p.y)
      rw [show q.x + (i : Int) - q.x = i by omega] at f2
      rw [show q.x + (i : Int) - p.x = m1 + i by omega] at f3
      constructor
      · rintro ⟨a1, a2, a3⟩
        omega
      · intro ⟨a1, a2⟩
        have a2' : 0 ≤ tz q r (q.x + i) (lo + j) := by omega
        have a3' : 0 ≤ tz r p (q.x + i) (lo + j) := by omega
        refine ⟨?_, a2', a3'⟩
        have b1 := sx (q.x + i) (lo + j)
        have b2 := s1 (q.x + i) (lo + j)
        generalize tz p q (q.x + i) (lo + j) = g1 at *
        generalize tz q r (q.x + i) (lo + j) = g2 at *
        generalize tz r p (q.x + i) (lo + j) = g3 at *
        have w1 := Int.mul_nonneg a2' (show 0 ≤ q.x - p.x by omega)
        have w2 := Int.mul_nonneg (Int.le_of_lt hD) (show 0 ≤ q.x + i - q.x by omega)
        have w3 : 0 ≤ (r.x - q.x) * g1 := by rw [id4 g1 g2 g3 D _ p.x q.x r.x b2 b1]; omega
        exact pos_of_mul (by omega) w3
  have c3 : sumN n (fun j => if inTri p q r (lo + ((m0 + m1 + m2 : Nat) : Int)) (lo + j) then (1 : Int) else 0) = if m2 = 0 then d2 + 1 else 1 := by
    have hX : lo + ((m0 + m1 + m2 : Nat) : Int) = r.x := by omega
    rw [hX]
    have f1 : ∀ y, tz p q r.x y = m1 * (y - r.y) + D := fun y => by rw [e1, eD]; rw [show r.x - p.x = m1 + m2 by omega, show y - p.y = (y - r.y) + d1 + d2 by omega]; grind
    have f2 : ∀ y, tz q r r.x y = m2 * (y - r.y) := fun y => by rw [e2]; rw [show r.x - q.x = m2 by omega, show y - q.y = (y - r.y) + d2 by omega]; grind
    have f3 : ∀ y, tz r p r.x y = -((m1 + m2) * (y - r.y)) := fun y => by rw [e3]; rw [show r.x - p.x = m1 + m2 by omega, show y - p.y = (y - r.y) + (d1 + d2) by omega]; grind
    by_cases hz : m2 = 0
    · rw [if_pos hz]
      have hd : 0 < d2 := by have := h3 (by omega); omega
      have := col_count (fun y => inTri p q r r.x y) lo q.y r.y n (by omega) (by omega) (by omega) ?_
      · rw [this]; omega
      · intro j hj
        rw [inTri_iff, f1, f2, f3]
        subst hz
        simp only [Int.natCast_zero, Int.zero_mul, Int.add_zero, Int.mul_zero, Int.sub_zero] at *
        rw [eD]
        constructor
        · rintro ⟨a1, a2, a3⟩
          have w1 : 0 ≤ (m1 : Int) * (lo + j - q.y) := by rw [show lo + (j : Int) - q.y = (lo + j - r.y) + d2 by omega, Int.mul_add]; omega
          have w2 : 0 ≤ (m1 : Int) * (r.y - (lo + j)) := by rw [show r.y - (lo + (j : Int)) = -(lo + j - r.y) by omega, Int.mul_neg]; omega
          have := pos_of_mul z1 w1
          have := pos_of_mul z1 w2
          omega
        · intro ⟨a1, a2⟩
          have w1 := Int.mul_nonneg (Int.le_of_lt z1) (show 0 ≤ lo + (j : Int) - q.y by omega)
          have w2 := Int.mul_nonneg (Int.le_of_lt z1) (show 0 ≤ r.y - (lo + (j : Int)) by omega)
          rw [show lo + (j : Int) - q.y = (lo + j - r.y) + d2 by omega, Int.mul_add] at w1
          rw [show r.y - (lo + (j : Int)) = -(lo + j - r.y) by omega, Int.mul_neg] at w2
          omega
    · rw [if_neg hz]
      have z2' : (0 : Int) < m2 := by omega
      have := col_count (fun y => inTri p q r r.x y) lo r.y r.y n (by omega) (by omega) (by omega) ?_
      · rw [this]; omega
      · intro j hj
        rw [inTri_iff, f1, f2, f3]
        constructor
        · rintro ⟨a1, a2, a3⟩
          have w1 := pos_of_mul z2' a2
          have w2 : 0 ≤ (m1 + m2 : Int) * (r.y - (lo + j)) := by rw [show r.y - (lo + (j : Int)) = -(lo + j - r.y) by omega, Int.mul_neg]; omega
          have := pos_of_mul zm w2
          omega
        · intro ⟨a1, a2⟩
          rw [show lo + (j : Int) - r.y = 0 by omega]
          simp
          omega
  have total : cnt (inTri p q r) lo n = (flS (m1 + m2) (d1 + d2) - ceS m1 d1 - ceS m2 d2) + m1 + m2 * (1 - d1) + (if m2 = 0 then d2 + 1 else 1) := by
    unfold cnt
    have hall : sumN n (fun i => sumN n (fun j => if inTri p q r (lo + i) (lo + j) then (1 : Int) else 0)) = sumN (m0 + m1 + m2 + 1 + m3) (fun i => sumN n (fun j => if inTri p q r (lo + i) (lo + j) then (1 : Int) else 0)) := by
      rw [← hn]
    rw [hall, sumN_cat, sumN_cat _ (m0 + m1 + m2), sumN_cat _ (m0 + m1), sumN_cat _ m0]
    rw [sumN_congr m0 c0, sumN_congr m3 c4, sumN_congr m1 c1, sumN_congr m2 c2]
    rw [sumN_zero m0 (fun _ _ => rfl), sumN_zero m3 (fun _ _ => rfl)]
    have e0 : ∀ f : Nat → Int, sumN 1 f = f 0 := fun f => by show 0 + f 0 = f 0; omega
    rw [e0]
    simp only [Nat.add_zero]
    rw [c3]
    rw [sumN_add (fun i => ((d1 + d2) * i) / ((m1 + m2 : Nat) : Int) - -((-(d1 * i)) / m1)) (fun _ => 1), sumN_const, sumN_sub]
    rw [sumN_add (fun i : Nat => ((d1 + d2) * ((m1 + i : Nat) : Int)) / ((m1 + m2 : Nat) : Int) - -((-(d2 * i)) / m2)) (fun _ => 1 - d1), sumN_const, sumN_sub]
    unfold flS ceS
    rw [sumN_cat (fun i => (d1 + d2) * i / ((m1 + m2 : Nat) : Int)) m1 m2]
    omega
  have k1 := fl_eq (m1 + m2) (d1 + d2) (by omega)
  have k2 := ce_eq m1 d1 hm1p
  rw [total]
  by_cases hz : m2 = 0
  · have hd : 0 < d2 := by have := h3 (by omega); omega
    have k3 : ceS m2 d2 = 0 := by rw [hz]; rfl
    have k4 : (Nat.gcd m2 d2.natAbs : Int) = d2 := by rw [hz, Nat.gcd_zero_left]; omega
    rw [if_pos hz, k3, k4]
    subst hz
    simp only [Int.natCast_zero, Nat.add_zero, Int.zero_mul, Int.mul_zero, Int.sub_zero, Int.add_zero] at *
    rw [eD]
    grind
  · have k3 := ce_eq m2 d2 (by omega)
    rw [if_neg hz, eD]
    rw [show ((m1 + m2 : Nat) : Int) = m1 + m2 by omega] at k1
    grind
theorem cnt_congr {p q : Int → Int → Bool} (lo : Int) (n : Nat) (h : ∀ x y, p x y = q x y) : cnt p lo n = cnt q lo n := by
  unfold cnt
  exact sumN_congr n (fun i _ => sumN_congr n (fun j _ => by rw [h]))
theorem cnt_neg (p : Int → Int → Bool) (lo : Int) (n : Nat) : cnt p lo n = cnt (fun x y => p (-x) (-y)) (1 - lo - n) n := by
  unfold cnt
  rw [sumN_rev]
  refine sumN_congr n (fun i hi => ?_)
  rw [sumN_rev]
  refine sumN_congr n (fun j hj => ?_)
  have e1 : lo + ((n - 1 - i : Nat) : Int) = -(1 - lo - (n : Int) + i) := by omega
  have e2 : lo + ((n - 1 - j : Nat) : Int) = -(1 - lo - (n : Int) + j) := by omega
  rw [e1, e2]
def InB (lo : Int) (n : Nat) (p : Pt) : Prop := lo ≤ p.x ∧ p.x < lo + n ∧ lo ≤ p.y ∧ p.y < lo + n
def negQ (p : Pt) : Pt := ⟨-p.x, -p.y, p.w⟩
theorem tz_neg (a b : Pt) (x y : Int) : tz (negQ a) (negQ b) (-x) (-y) = tz a b x y := by unfold tz negQ; grind
theorem tz_cyc (a b c : Pt) : tz a b c.x c.y = tz b c a.x a.y := by unfold tz; grind
theorem inTri_cyc (a b c : Pt) (x y : Int) : inTri a b c x y = inTri b c a x y := by
  have h1 := inTri_iff a b c x y
  have h2 := inTri_iff b c a x y
  rw [Bool.eq_iff_iff, h1, h2]
  constructor
  · rintro ⟨a1, a2, a3⟩; exact ⟨a2, a3, a1⟩
  · rintro ⟨a1, a2, a3⟩; exact ⟨a3, a1, a2⟩
theorem gcd_neg (a b : Pt) : gcdP (negQ a) (negQ b) = gcdP a b := by
  unfold gcdP negQ
  dsimp only
  rw [show -b.x - -a.x = -(b.x - a.x) by omega, show -b.y - -a.y = -(b.y - a.y) by omega, Int.natAbs_neg, Int.natAbs_neg]
def lxq (a b : Pt) : Prop := a.x < b.x ∨ (a.x = b.x ∧ a.y < b.y)
def PickTri (lo : Int) (n : Nat) (a b c : Pt) : Prop := 2 * cnt (inTri a b c) lo n = tz a b c.x c.y + gcdP a b + gcdP b c + gcdP c a + 2
theorem pick_cyc {lo : Int} {n : Nat} {a b c : Pt} (h : PickTri lo n b c a) : PickTri lo n a b c := by
  unfold PickTri at *
  rw [cnt_congr lo n (inTri_cyc a b c), h, tz_cyc a b c]
  omega
theorem pick_one {lo : Int} {n : Nat} {p q r : Pt} (h1 : lxq p q) (h2 : lxq q r) (hD : 0 < tz p q r.x r.y) (bp : InB lo n p) (bq : InB lo n q) (br : InB lo n r) : PickTri lo n p q r := by
  have hx : p.x < q.x := by
    unfold lxq at *
    by_cases h : p.x < q.x
    · exact h
    · exfalso
      have e : p.x = q.x := by omega
      have hy : p.y < q.y := by omega
      unfold tz at hD
      rw [e, Int.sub_self, Int.zero_mul] at hD
      have := Int.mul_nonneg (show 0 ≤ q.y - p.y by omega) (show 0 ≤ r.x - q.x by omega)
      omega
  exact tri_one p q r lo n hx (by unfold lxq at h2; omega) (fun e => by unfold lxq at h2; omega) hD bp bq br
theorem pick_two {lo : Int} {n : Nat} {a b c : Pt} (h1 : lxq a c) (h2 : lxq c b) (hD : 0 < tz a b c.x c.y) (ba : InB lo n a) (bb : InB lo n b) (bc : InB lo n c) : PickTri lo n a b c := by
  have h := pick_one (lo := 1 - lo - n) (n := n) (p := (negQ b)) (q := (negQ c)) (r := (negQ a)) (by unfold lxq negQ at *; dsimp only; omega) (by unfold lxq negQ at *; dsimp only; omega)
    (by have := tz_neg b c a.x a.y; rw [← tz_cyc] at this; show 0 < tz (negQ b) (negQ c) (-a.x) (-a.y); rw [tz_neg, ← tz_cyc]; exact hD)
    (by unfold InB negQ at *; dsimp only; omega) (by unfold InB negQ at *; dsimp only; omega) (by unfold InB negQ at *; dsimp only; omega)
  unfold PickTri at *
  rw [gcd_neg, gcd_neg, gcd_neg] at h
  have e : tz (negQ b) (negQ c) (negQ a).x (negQ a).y = tz a b c.x c.y := by
    show tz (negQ b) (negQ c) (-a.x) (-a.y) = _
    rw [tz_neg, ← tz_cyc]
  rw [e] at h
  rw [cnt_neg]
  rw [cnt_congr (p := fun x y => inTri a b c (-x) (-y)) (q := inTri (negQ b) (negQ c) (negQ a)) _ n (fun x y => ?_)]
  · rw [h]; omega
  · rw [Bool.eq_iff_iff, inTri_iff, inTri_iff]
    have e1 := tz_neg a b (-x) (-y)
    have e2 := tz_neg b c (-x) (-y)
    have e3 := tz_neg c a (-x) (-y)
    rw [Int.neg_neg, Int.neg_neg] at e1 e2 e3
    rw [e1, e2, e3]
    constructor
    · rintro ⟨a1, a2, a3⟩; exact ⟨a2, a3, a1⟩
    · rintro ⟨a1, a2, a3⟩; exact ⟨a3, a1, a2⟩
theorem tz_self (a b : Pt) (x y : Int) (hx : a.x = b.x) (hy : a.y = b.y) : tz a b x y = 0 := by unfold tz; rw [hx, hy]; simp
theorem lxq_or (a b : Pt) : lxq a b ∨ lxq b a ∨ (a.x = b.x ∧ a.y = b.y) := by unfold lxq; omega
/-- Pick's law for a triangle. -/
theorem pick_tri {lo : Int} {n : Nat} {a b c : Pt} (hD : 0 < tz a b c.x c.y) (ba : InB lo n a) (bb : InB lo n b) (bc : InB lo n c) : PickTri lo n a b c := by
  have hD2 : 0 < tz b c a.x a.y := by rw [← tz_cyc]; exact hD
  have hD3 : 0 < tz c a b.x b.y := by rw [← tz_cyc]; exact hD2
  rcases lxq_or a b with ab | ab | ⟨e1, e2⟩
  · rcases lxq_or b c with bc' | bc' | ⟨e1, e2⟩
    · exact pick_one ab bc' hD ba bb bc
    · rcases lxq_or a c with ac | ac | ⟨e1, e2⟩
      · exact pick_two ac bc' hD ba bb bc
      · exact pick_cyc (pick_cyc (pick_one ac ab hD3 bc ba bb))
      · rw [tz_self c a _ _ e1.symm e2.symm] at hD3; omega
    · rw [tz_self b c _ _ e1 e2] at hD2; omega
  · rcases lxq_or b c with bc' | bc' | ⟨e1, e2⟩
    · rcases lxq_or a c with ac | ac | ⟨e1, e2⟩
      · exact pick_cyc (pick_two ab ac hD2 bb bc ba)
      · exact pick_cyc (pick_one bc' ac hD2 bb bc ba)
      · rw [tz_self c a _ _ e1.symm e2.symm] at hD3; omega
    · exact pick_cyc (pick_cyc (pick_two bc' ab hD3 bc ba bb))
    · rw [tz_self b c _ _ e1 e2] at hD2; omega
  · rw [tz_self a b _ _ e1 e2] at hD; omega
theorem bary (a b c : Pt) (x y : Int) : tz a b x y + tz b c x y + tz c a x y = tz a b c.x c.y := by unfold tz; grind
theorem bary_x (a b c : Pt) (x y : Int) : tz a b c.x c.y * x = tz b c x y * a.x + tz c a x y * b.x + tz a b x y * c.x := by unfold tz; grind
theorem bary_y (a b c : Pt) (x y : Int) : tz a b c.x c.y * y = tz b c x y * a.y + tz c a x y * b.y + tz a b x y * c.y := by unfold tz; grind
theorem bary_t (u v a b c : Pt) (x y : Int) : tz a b c.x c.y * tz u v x y = tz b c x y * tz u v a.x a.y + tz c a x y * tz u v b.x b.y + tz a b x y * tz u v c.x c.y := by unfold tz; grind
theorem tz_anti (a b : Pt) (x y : Int) : tz b a x y = - tz a b x y := by unfold tz; grind
theorem tz_first (a b : Pt) : tz a b a.x a.y = 0 := by unfold tz; grind
theorem tz_second (a b : Pt) : tz a b b.x b.y = 0 := by unfold tz; grind

/-- The lattice points between two places. -/
def onSeg (a b : Pt) (x y : Int) : Bool := decide (tz a b x y = 0 ∧ a.x ≤ x ∧ x ≤ b.x ∧ (a.x = b.x → a.y ≤ y ∧ y ≤ b.y))
theorem seg_count (a b : Pt) (lo : Int) (n : Nat) (h : lxq a b) (ba : InB lo n a) (bb : InB lo n b) : cnt (onSeg a b) lo n = gcdP a b + 1 := by
  unfold InB at *
  obtain ⟨m0, hm0⟩ : ∃ m0 : Nat, (m0 : Int) = a.x - lo := ⟨(a.x - lo).toNat, by omega⟩
  obtain ⟨m, hm⟩ : ∃ m : Nat, (m : Int) = b.x - a.x := ⟨(b.x - a.x).toNat, by unfold lxq at h; omega⟩
  obtain ⟨m3, hm3⟩ : ∃ m3 : Nat, (m3 : Int) = lo + n - 1 - b.x := ⟨(lo + n - 1 - b.x).toNat, by omega⟩
  obtain ⟨d, hd⟩ : ∃ d, d = b.y - a.y := ⟨_, rfl⟩
  have hn : n = m0 + (m + 1) + m3 := by omega
  have e1 : ∀ x y, tz a b x y = m * (y - a.y) - d * (x - a.x) := fun x y => by rw [hm, hd]; rfl
  have hin : ∀ x y, onSeg a b x y = true ↔ tz a b x y = 0 ∧ a.x ≤ x ∧ x ≤ b.x ∧ (a.x = b.x → a.y ≤ y ∧ y ≤ b.y) := fun x y => by unfold onSeg; rw [decide_eq_true_eq]
  have g1 : (gcdP a b : Int) = Nat.gcd m d.natAbs := by unfold gcdP; rw [← hm, ← hd]; simp
  unfold cnt
  have hall : sumN n (fun i => sumN n (fun j => if onSeg a b (lo + i) (lo + j) then (1 : Int) else 0)) = sumN (m0 + (m + 1) + m3) (fun i => sumN n (fun j => if onSeg a b (lo + i) (lo + j) then (1 : Int) else 0)) := by rw [← hn]
  rw [hall, sumN_cat, sumN_cat]
  rw [sumN_zero m0 (fun i hi => sumN_zero n (fun j _ => if_neg (fun q => by have := (hin _ _).1 q; omega)))]
  rw [sumN_zero m3 (fun i hi => sumN_zero n (fun j _ => if_neg (fun q => by have := (hin _ _).1 q; omega)))]
  rw [Int.zero_add, Int.add_zero, g1]
  by_cases hz : m = 0
  · subst hz
    rw [show sumN (0 + 1) (fun i => sumN n (fun j => if onSeg a b (lo + ((m0 + i : Nat) : Int)) (lo + j) then (1 : Int) else 0)) = sumN n (fun j => if onSeg a b (lo + ((m0 + 0 : Nat) : Int)) (lo + j) then (1 : Int) else 0) from Int.zero_add _]
    have := col_count (fun y => onSeg a b (lo + ((m0 + 0 : Nat) : Int)) y) lo a.y b.y n (by omega) (by unfold lxq at h; omega) (by omega) (fun j hj => by
      rw [hin, e1]
      rw [show lo + ((m0 + 0 : Nat) : Int) - a.x = 0 by omega]
      simp only [Int.natCast_zero, Int.zero_mul, Int.mul_zero, Int.sub_zero, true_and]
      constructor
      · rintro ⟨_, _, h3⟩; exact h3 (by omega)
      · intro h3; exact ⟨by omega, by omega, fun _ => h3⟩)
    rw [this, Nat.gcd_zero_left]
    unfold lxq at h
    omega
  · have hmp : 0 < m := by omega
    have hmz : (0 : Int) < m := by omega
    have col : ∀ i : Nat, i < m + 1 → sumN n (fun j => if onSeg a b (lo + ((m0 + i : Nat) : Int)) (lo + j) then (1 : Int) else 0) = if (m : Int) ∣ d * i then 1 else 0 := fun i hi => by
      have hX : lo + ((m0 + i : Nat) : Int) = a.x + i := by omega
      rw [hX]
      by_cases hdv : (m : Int) ∣ d * i
      · rw [if_pos hdv]
        obtain ⟨t, ht⟩ := hdv
        have b1 := part_low (d := d) (i := i) (m := m) (t := lo - 1 - a.y) hmz (by omega) (by omega) (by omega) (by omega)
        have b2 := part_up (d := d) (i := i) (m := m) (t := lo + n - a.y) hmz (by omega) (by omega) (by omega) (by omega)
        rw [ht] at b1 b2
        have b1 := Int.lt_of_mul_lt_mul_left b1 (Int.le_of_lt hmz)
        have b2 := Int.lt_of_mul_lt_mul_left b2 (Int.le_of_lt hmz)
        have := col_count (fun y => onSeg a b (a.x + i) y) lo (a.y + t) (a.y + t) n (by omega) (by omega) (by omega) (fun j hj => by
          rw [hin, e1, show a.x + (i : Int) - a.x = i by omega, ht]
          constructor
          · rintro ⟨h1, _⟩
            have : (m : Int) * (lo + j - a.y - t) = 0 := by rw [Int.mul_sub]; exact h1
            rcases Int.mul_eq_zero.1 this with h2 | h2 <;> omega
          · intro h1
            refine ⟨?_, by omega, by omega, fun e => by omega⟩
            rw [show lo + (j : Int) - a.y = t by omega, Int.sub_self])
        rw [this]; omega
      · rw [if_neg hdv]
        refine sumN_zero n (fun j _ => if_neg (fun q => hdv ?_))
        obtain ⟨h1, _⟩ := (hin _ _).1 q
        rw [e1, show a.x + (i : Int) - a.x = i by omega] at h1
        exact ⟨lo + j - a.y, by omega⟩
    rw [sumN_congr (m + 1) col]
    show sumN m _ + _ = _
    rw [count_dvd m d hmp]
    show _ + (if (m : Int) ∣ d * (m : Int) then (1 : Int) else 0) = _
    rw [if_pos (Int.dvd_mul_left _ _)]
theorem cnt_or (p q : Int → Int → Bool) (lo : Int) (n : Nat) : cnt p lo n + cnt q lo n = cnt (fun x y => p x y || q x y) lo n + cnt (fun x y => p x y && q x y) lo n := by
  unfold cnt
  rw [← sumN_add, ← sumN_add]
  refine sumN_congr n (fun i _ => ?_)
  rw [← sumN_add, ← sumN_add]
  refine sumN_congr n (fun j _ => ?_)
  have key : ∀ a b : Bool, ((if a = true then (1 : Int) else 0) + if b = true then 1 else 0) = (if (a || b) = true then 1 else 0) + if (a && b) = true then 1 else 0 := by decide
  exact key _ _
theorem cnt_le {p q : Int → Int → Bool} (lo : Int) (n : Nat) (h : ∀ x y, p x y = true → q x y = true) : cnt p lo n ≤ cnt q lo n := by
  unfold cnt
  refine sumN_le n (fun i _ => sumN_le n (fun j _ => ?_))
  cases hp : p (lo + i) (lo + j)
  · cases q (lo + i) (lo + j) <;> simp
  · rw [h _ _ hp]; simp
/-- A side of a triangle. -/
theorem side_seg {a b c : Pt} (hD : 0 < tz a b c.x c.y) (h : lxq a b) (x y : Int) : (inTri a b c x y = true ∧ tz a b x y = 0) ↔ onSeg a b x y = true := by
  unfold onSeg
  rw [inTri_iff, decide_eq_true_eq]
  have k1 := bary a b c x y
  have k2 := bary_x a b c x y
  have k3 := bary_y a b c x y
  have t1 := bary_t b c a b c x y
  generalize tz a b c.x c.y = D at *
  constructor
  · rintro ⟨⟨_, a2, a3⟩, h0⟩
    rw [h0] at k1 k2 k3
    generalize tz b c x y = f at *
    generalize tz c a x y = g at *
    rw [Int.zero_mul, Int.add_zero] at k2 k3
    rw [Int.zero_add] at k1
    have i1 : D * (x - a.x) = g * (b.x - a.x) := by rw [Int.mul_sub, k2, ← k1]; grind
    have i2 : D * (b.x - x) = f * (b.x - a.x) := by rw [Int.mul_sub, k2, ← k1]; grind
    have i3 : D * (y - a.y) = g * (b.y - a.y) := by rw [Int.mul_sub, k3, ← k1]; grind
    have i4 : D * (b.y - y) = f * (b.y - a.y) := by rw [Int.mul_sub, k3, ← k1]; grind
    have hx : a.x ≤ b.x := by unfold lxq at h; omega
    refine ⟨h0, ?_, ?_, fun e => ?_⟩
    · have := pos_of_mul hD (t := x - a.x) (by rw [i1]; exact Int.mul_nonneg a3 (by omega)); omega
    · have := pos_of_mul hD (t := b.x - x) (by rw [i2]; exact Int.mul_nonneg a2 (by omega)); omega
    · have hy : a.y ≤ b.y := by unfold lxq at h; omega
      have := pos_of_mul hD (t := y - a.y) (by rw [i3]; exact Int.mul_nonneg a3 (by omega))
      have := pos_of_mul hD (t := b.y - y) (by rw [i4]; exact Int.mul_nonneg a2 (by omega))
      omega
  · rintro ⟨h0, h1, h2, h3⟩
    rw [h0] at k1 k2 k3
    rw [Int.zero_mul, Int.add_zero] at k2 k3
    rw [Int.zero_add] at k1
    refine ⟨⟨by omega, ?_⟩, h0⟩
    generalize tz b c x y = f at *
    generalize tz c a x y = g at *
    have i1 : D * (x - a.x) = g * (b.x - a.x) := by rw [Int.mul_sub, k2, ← k1]; grind
    have i2 : D * (b.x - x) = f * (b.x - a.x) := by rw [Int.mul_sub, k2, ← k1]; grind
    have i3 : D * (y - a.y) = g * (b.y - a.y) := by rw [Int.mul_sub, k3, ← k1]; grind
    have i4 : D * (b.y - y) = f * (b.y - a.y) := by rw [Int.mul_sub, k3, ← k1]; grind
    unfold lxq at h
    by_cases e : a.x = b.x
    · obtain ⟨h4, h5⟩ := h3 e
      have w1 := Int.mul_nonneg (Int.le_of_lt hD) (show 0 ≤ b.y - y by omega)
      have w2 := Int.mul_nonneg (Int.le_of_lt hD) (show 0 ≤ y - a.y by omega)
      rw [i4, Int.mul_comm] at w1
      rw [i3, Int.mul_comm] at w2
      exact ⟨pos_of_mul (by omega) w1, pos_of_mul (by omega) w2⟩
    · have w1 := Int.mul_nonneg (Int.le_of_lt hD) (show 0 ≤ b.x - x by omega)
      have w2 := Int.mul_nonneg (Int.le_of_lt hD) (show 0 ≤ x - a.x by omega)
      rw [i2, Int.mul_comm] at w1
      rw [i1, Int.mul_comm] at w2
      exact ⟨pos_of_mul (by omega) w1, pos_of_mul (by omega) w2⟩
/-- A polygon of the corners D 0 .. D k. -/
def inPoly (D : Nat → Pt) (k : Nat) (x y : Int) : Bool := decide ((∀ i, i < k → 0 ≤ tz (D i) (D (i + 1)) x y) ∧ 0 ≤ tz (D k) (D 0) x y)
theorem inPoly_iff (D : Nat → Pt) (k : Nat) (x y : Int) : inPoly D k x y = true ↔ (∀ i, i < k → 0 ≤ tz (D i) (D (i + 1)) x y) ∧ 0 ≤ tz (D k) (D 0) x y := by
  unfold inPoly; rw [decide_eq_true_eq]
structure Conv (D : Nat → Pt) (n : Nat) : Prop where
  hold : ∀ i, i + 1 < n → ∀ j, j < n → 0 ≤ tz (D i) (D (i + 1)) (D j).x (D j).y
  fan : ∀ k, 1 ≤ k → k + 1 < n → 0 < tz (D 0) (D k) (D (k + 1)).x (D (k + 1)).y
  ord : ∀ m k, 1 ≤ m → m ≤ k → k < n → 0 ≤ tz (D 0) (D m) (D k).x (D k).y
  low : ∀ k, 1 ≤ k → k < n → lxq (D 0) (D k)
/-- What holds at three corners holds within. -/
theorem tri_in {u v a b c : Pt} {x y : Int} (hD : 0 < tz a b c.x c.y) (h : inTri a b c x y = true) (ha : 0 ≤ tz u v a.x a.y) (hb : 0 ≤ tz u v b.x b.y) (hc : 0 ≤ tz u v c.x c.y) : 0 ≤ tz u v x y := by
  obtain ⟨h1, h2, h3⟩ := (inTri_iff _ _ _ _ _).1 h
  have := bary_t u v a b c x y
  have w1 := Int.mul_nonneg h2 ha
  have w2 := Int.mul_nonneg h3 hb
  have w3 := Int.mul_nonneg h1 hc
  exact pos_of_mul hD (by omega)
/-- A place of a polygon is in one of its triangles. -/
theorem in_fan {D : Nat → Pt} {n : Nat} (hC : Conv D n) {x y : Int} : ∀ k, 2 ≤ k → k < n → inPoly D k x y = true → ∃ j, 1 ≤ j ∧ j < k ∧ inTri (D 0) (D j) (D (j + 1)) x y = true := by
  intro k
  induction k with
  | zero => intro h; omega
  | succ k ih =>
    intro h2 hk h
    obtain ⟨p1, p2⟩ := (inPoly_iff _ _ _ _).1 h
    by_cases hz : 0 ≤ tz (D 0) (D k) x y
    · refine ⟨k, by omega, by omega, (inTri_iff _ _ _ _ _).2 ⟨hz, p1 k (by omega), p2⟩⟩
    · by_cases h1 : k = 1
      · subst h1; exact absurd (p1 0 (by omega)) hz
      · obtain ⟨j, h3, h4, h5⟩ := ih (by omega) (by omega) ((inPoly_iff _ _ _ _).2 ⟨fun i hi => p1 i (by omega), by rw [tz_anti]; omega⟩)
        exact ⟨j, h3, by omega, h5⟩
/-- What holds at all corners holds within. -/
theorem poly_in {D : Nat → Pt} {n : Nat} (hC : Conv D n) {u v : Pt} {x y : Int} (k : Nat) (h2 : 2 ≤ k) (hk : k < n) (h : inPoly D k x y = true) (hu : ∀ j, j ≤ k → 0 ≤ tz u v (D j).x (D j).y) : 0 ≤ tz u v x y := by
  obtain ⟨j, h3, h4, h5⟩ := in_fan hC k h2 hk h
  exact tri_in (hC.fan j h3 (by omega)) h5 (hu 0 (by omega)) (hu j (by omega)) (hu (j + 1) (by omega))
def areaK (D : Nat → Pt) : Nat → Int
  | 0 => 0
  | k + 1 => areaK D k + tz (D 0) (D (k + 1)) (D (k + 2)).x (D (k + 2)).y
def bordK (D : Nat → Pt) : Nat → Int
  | 0 => 0
  | k + 1 => bordK D k + gcdP (D k) (D (k + 1))
theorem tri_seg_count {lo : Int} {n : Nat} {a b c : Pt} (hD : 0 < tz a b c.x c.y) (h : lxq a b) (ba : InB lo n a) (bb : InB lo n b) : cnt (fun x y => decide (inTri a b c x y = true ∧ tz a b x y = 0)) lo n = gcdP a b + 1 := by
  rw [← seg_count a b lo n h ba bb]
  refine cnt_congr lo n (fun x y => ?_)
  rw [Bool.eq_iff_iff, decide_eq_true_eq]
  exact side_seg hD h x y
/-- Pick's law. -/
theorem pick_poly {D : Nat → Pt} {n : Nat} (hC : Conv D n) (lo : Int) (N : Nat) (hB : ∀ i, i < n → InB lo N (D i)) : ∀ k, k + 2 < n → 2 * cnt (inPoly D (k + 2)) lo N = areaK D (k + 1) + bordK D (k + 2) + gcdP (D (k + 2)) (D 0) + 2 := by
  intro k
  induction k with
  | zero =>
    intro hk
    have h := pick_tri (c := D 2) (hC.fan 1 (by omega) (by omega)) (hB 0 (by omega)) (hB 1 (by omega)) (hB 2 (by omega))
    unfold PickTri at h
    rw [cnt_congr (q := inTri (D 0) (D 1) (D 2)) lo N (fun x y => ?_), h]
    · show _ = 0 + tz (D 0) (D 1) (D 2).x (D 2).y + (0 + (gcdP (D 0) (D 1) : Int) + gcdP (D 1) (D 2)) + gcdP (D 2) (D 0) + 2
      omega
    · rw [Bool.eq_iff_iff, inPoly_iff, inTri_iff]
      constructor
      · rintro ⟨a1, a2⟩; exact ⟨a1 0 (by omega), a1 1 (by omega), a2⟩
      · rintro ⟨a1, a2, a3⟩
        refine ⟨fun i hi => ?_, a3⟩
        rcases (show i = 0 ∨ i = 1 by omega) with rfl | rfl
        · exact a1
        · exact a2
  | succ k ih =>
    intro hk
    have ih := ih (by omega)
    have hf := hC.fan (k + 2) (by omega) (by omega)
    have ht := pick_tri (c := D (k + 3)) hf (hB 0 (by omega)) (hB (k + 2) (by omega)) (hB (k + 3) (by omega))
    unfold PickTri at ht
    have hs := tri_seg_count hf (hC.low (k + 2) (by omega) (by omega)) (hB 0 (by omega)) (hB (k + 2) (by omega))
    have hor := cnt_or (inPoly D (k + 2)) (inTri (D 0) (D (k + 2)) (D (k + 3))) lo N
    rw [cnt_congr (p := fun x y => inPoly D (k + 2) x y || inTri (D 0) (D (k + 2)) (D (k + 3)) x y) (q := inPoly D (k + 3)) lo N (fun x y => ?u)] at hor
    · rw [cnt_congr (p := fun x y => inPoly D (k + 2) x y && inTri (D 0) (D (k + 2)) (D (k + 3)) x y) (q := fun x y => decide (inTri (D 0) (D (k + 2)) (D (k + 3)) x y = true ∧ tz (D 0) (D (k + 2)) x y = 0)) lo N (fun x y => ?v)] at hor
      · have e1 : areaK D (k + 1 + 1) = areaK D (k + 1) + tz (D 0) (D (k + 2)) (D (k + 3)).x (D (k + 3)).y := rfl
        have e2 : bordK D (k + 1 + 2) = bordK D (k + 2) + gcdP (D (k + 2)) (D (k + 3)) := rfl
        have e3 := gcdP_comm (D (k + 2)) (D 0)
        rw [e1, e2]
        rw [show k + 1 + 2 = k + 3 by omega]
        rw [hs] at hor
        rw [e3] at ih
        omega
      case v =>
        rw [Bool.eq_iff_iff, Bool.and_eq_true, decide_eq_true_eq]
        constructor
        · rintro ⟨h1, h2⟩
          refine ⟨h2, ?_⟩
          have a1 := ((inPoly_iff _ _ _ _).1 h1).2
          have a2 := ((inTri_iff _ _ _ _ _).1 h2).1
          rw [tz_anti] at a1
          omega
        · rintro ⟨h1, h2⟩
          refine ⟨(inPoly_iff _ _ _ _).2 ⟨fun i hi => ?_, by rw [tz_anti]; omega⟩, h1⟩
          exact tri_in hf h1 (hC.hold i (by omega) 0 (by omega)) (hC.hold i (by omega) (k + 2) (by omega)) (hC.hold i (by omega) (k + 3) (by omega))
    case u =>
      rw [Bool.eq_iff_iff, Bool.or_eq_true]
      constructor
      · rintro (h | h)
        · obtain ⟨a1, a2⟩ := (inPoly_iff _ _ _ _).1 h
          refine (inPoly_iff _ _ _ _).2 ⟨fun i hi => ?_, ?_⟩
          · by_cases hik : i < k + 2
            · exact a1 i hik
            · obtain rfl : i = k + 2 := by omega
              exact poly_in hC (k + 2) (by omega) (by omega) h (fun j hj => hC.hold (k + 2) (by omega) j (by omega))
          · refine poly_in hC (k + 2) (by omega) (by omega) h (fun j hj => ?_)
            by_cases hj0 : j = 0
            · subst hj0; rw [tz_second]; exact Int.le_refl _
            · rw [tz_cyc]; exact hC.ord j (k + 3) (by omega) (by omega) (by omega)
        · obtain ⟨a1, a2, a3⟩ := (inTri_iff _ _ _ _ _).1 h
          refine (inPoly_iff _ _ _ _).2 ⟨fun i hi => ?_, a3⟩
          exact tri_in hf h (hC.hold i (by omega) 0 (by omega)) (hC.hold i (by omega) (k + 2) (by omega)) (hC.hold i (by omega) (k + 3) (by omega))
      · intro h
        obtain ⟨a1, a2⟩ := (inPoly_iff _ _ _ _).1 h
        by_cases hz : 0 ≤ tz (D 0) (D (k + 2)) x y
        · exact .inr ((inTri_iff _ _ _ _ _).2 ⟨hz, a1 (k + 2) (by omega), a2⟩)
        · exact .inl ((inPoly_iff _ _ _ _).2 ⟨fun i hi => a1 i (by omega), by rw [tz_anti]; omega⟩)
def scP (N : Nat) (p : Pt) : Pt := ⟨N * p.x, N * p.y, p.w⟩
theorem tz_sc (N : Nat) (a b c : Pt) : tz (scP N a) (scP N b) (scP N c).x (scP N c).y = (N * N : Int) * tz a b c.x c.y := by unfold tz scP; grind
theorem gcd_sc (N : Nat) (a b : Pt) : gcdP (scP N a) (scP N b) = N * gcdP a b := by
  unfold gcdP scP
  dsimp only
  rw [← Int.mul_sub, ← Int.mul_sub, Int.natAbs_mul, Int.natAbs_mul, Int.natAbs_natCast, Nat.gcd_mul_left]
theorem lx_sc {N : Nat} (hN : 0 < N) {a b : Pt} (h : lxq a b) : lxq (scP N a) (scP N b) := by
  unfold lxq scP at *
  dsimp only
  rcases h with h | ⟨h1, h2⟩
  · exact .inl (Int.mul_lt_mul_of_pos_left h (by omega))
  · exact .inr ⟨by rw [h1], Int.mul_lt_mul_of_pos_left h2 (by omega)⟩
theorem conv_sc {D : Nat → Pt} {n N : Nat} (hN : 0 < N) (h : Conv D n) : Conv (fun i => scP N (D i)) n := by
  have hNN : (0 : Int) < N * N := Int.mul_pos (by omega) (by omega)
  refine ⟨fun i hi j hj => ?_, fun k h1 h2 => ?_, fun m k h1 h2 h3 => ?_, fun k h1 h2 => lx_sc hN (h.low k h1 h2)⟩
  · rw [tz_sc]; exact Int.mul_nonneg (Int.le_of_lt hNN) (h.hold i hi j hj)
  · rw [tz_sc]; exact Int.mul_pos hNN (h.fan k h1 h2)
  · rw [tz_sc]; exact Int.mul_nonneg (Int.le_of_lt hNN) (h.ord m k h1 h2 h3)
theorem area_sc (D : Nat → Pt) (N : Nat) : ∀ k, areaK (fun i => scP N (D i)) k = (N * N : Int) * areaK D k
  | 0 => by simp [areaK]
  | k + 1 => by
    show areaK _ k + tz _ _ _ _ = _ * (areaK D k + _)
    rw [area_sc D N k, tz_sc, Int.mul_add]
theorem bord_sc (D : Nat → Pt) (N : Nat) : ∀ k, bordK (fun i => scP N (D i)) k = (N : Int) * bordK D k
  | 0 => by simp [bordK]
  | k + 1 => by
    show bordK _ k + (gcdP _ _ : Int) = _ * (bordK D k + _)
    rw [bord_sc D N k, gcd_sc, Int.mul_add]; omega
/-- All coordinates are within a bound. -/
def BdP (B : Int) (p : Pt) : Prop := -B ≤ p.x ∧ p.x ≤ B ∧ -B ≤ p.y ∧ p.y ≤ B
theorem bd_sc {B : Nat} {N : Nat} {p : Pt} (h : BdP B p) : InB (-(N * B : Nat)) (2 * (N * B) + 1) (scP N p) := by
  unfold BdP at h
  unfold InB scP
  dsimp only
  have e : ((N * B : Nat) : Int) = N * B := by rw [Int.natCast_mul]
  have hN : (0 : Int) ≤ N := by omega
  have h1 := Int.mul_le_mul_of_nonneg_left h.1 hN
  have h2 := Int.mul_le_mul_of_nonneg_left h.2.1 hN
  have h3 := Int.mul_le_mul_of_nonneg_left h.2.2.1 hN
  have h4 := Int.mul_le_mul_of_nonneg_left h.2.2.2 hN
  rw [Int.mul_neg] at h1 h3
  omega
/-- The closing edge as well. -/
def bordAll (D : Nat → Pt) (n : Nat) : Int := bordK D (n - 1) + gcdP (D (n - 1)) (D 0)
def areaAll (D : Nat → Pt) (n : Nat) : Int := areaK D (n - 2)
theorem pick_all {D : Nat → Pt} {n : Nat} (h3 : 3 ≤ n) (hC : Conv D n) (lo : Int) (N : Nat) (hB : ∀ i, i < n → InB lo N (D i)) : 2 * cnt (inPoly D (n - 1)) lo N = areaAll D n + bordAll D n + 2 := by
  obtain ⟨k, rfl⟩ : ∃ k, n = k + 3 := ⟨n - 3, by omega⟩
  have := pick_poly hC lo N hB k (by omega)
  unfold areaAll bordAll
  rw [show k + 3 - 1 = k + 2 by omega, show k + 3 - 2 = k + 1 by omega]
  omega
theorem pick_scaled {D : Nat → Pt} {n : Nat} (h3 : 3 ≤ n) (hC : Conv D n) {B : Nat} (hB : ∀ i, i < n → BdP B (D i)) (N : Nat) (hN : 0 < N) :
    2 * cnt (inPoly (fun i => scP N (D i)) (n - 1)) (-(N * B : Nat)) (2 * (N * B) + 1) = (N * N : Int) * areaAll D n + N * bordAll D n + 2 := by
  rw [pick_all h3 (conv_sc hN hC) _ _ (fun i hi => bd_sc (hB i hi))]
  unfold areaAll bordAll
  rw [area_sc, bord_sc, gcd_sc, Int.mul_add]
  omega
/-- What holds at the corners D of all edges of E. -/
structure Within (D : Nat → Pt) (n : Nat) (E : Nat → Pt) (m : Nat) : Prop where
  edge : ∀ i, i + 1 < m → ∀ j, j < n → 0 ≤ tz (E i) (E (i + 1)) (D j).x (D j).y
  close : ∀ j, j < n → 0 ≤ tz (E (m - 1)) (E 0) (D j).x (D j).y
theorem within_in {D E : Nat → Pt} {n m N : Nat} (hn : 3 ≤ n) (hm : 3 ≤ m) (hN : 0 < N) (hD : Conv D n) (h : Within D n E m) {x y : Int} (hp : inPoly (fun i => scP N (D i)) (n - 1) x y = true) : inPoly (fun i => scP N (E i)) (m - 1) x y = true := by
  have hNN : (0 : Int) < N * N := Int.mul_pos (by omega) (by omega)
  rw [inPoly_iff]
  refine ⟨fun i hi => ?_, ?_⟩
  · refine poly_in (conv_sc hN hD) (n - 1) (by omega) (by omega) hp (fun j hj => ?_)
    rw [tz_sc]; exact Int.mul_nonneg (Int.le_of_lt hNN) (h.edge i (by omega) j (by omega))
  · refine poly_in (conv_sc hN hD) (n - 1) (by omega) (by omega) hp (fun j hj => ?_)
    rw [tz_sc]; exact Int.mul_nonneg (Int.le_of_lt hNN) (h.close j (by omega))
theorem quad_le {a b K : Int} (h : ∀ N : Nat, 0 < N → (N * N : Int) * a ≤ N * N * b + N * K) : a ≤ b := by
  by_cases hc : a ≤ b
  · exact hc
  · exfalso
    have h1 := h (K.natAbs + 1) (by omega)
    have e : (((K.natAbs + 1 : Nat)) : Int) = K.natAbs + 1 := by omega
    rw [e] at h1
    obtain ⟨M, hM⟩ : ∃ M : Int, M = K.natAbs + 1 := ⟨_, rfl⟩
    rw [← hM] at h1
    have hM0 : 0 < M := by omega
    have hMK : K < M := by omega
    have e1 : M * (M * (a - b) - K) ≤ 0 := by rw [Int.mul_sub, ← Int.mul_assoc, Int.mul_sub]; omega
    have h2 : M ≤ M * (a - b) := by
      have := Int.mul_le_mul_of_nonneg_left (show 1 ≤ a - b by omega) (Int.le_of_lt hM0)
      omega
    have h3 := Int.mul_pos hM0 (show 0 < M * (a - b) - K by omega)
    omega
theorem area_le {D E : Nat → Pt} {n m B : Nat} (hn : 3 ≤ n) (hm : 3 ≤ m) (hD : Conv D n) (hE : Conv E m) (h : Within D n E m) (bD : ∀ i, i < n → BdP B (D i)) (bE : ∀ i, i < m → BdP B (E i)) : areaAll D n ≤ areaAll E m := by
  refine quad_le (K := bordAll E m - bordAll D n) (fun N hN => ?_)
  have h1 := pick_scaled hn hD bD N hN
  have h2 := pick_scaled hm hE bE N hN
  have h3 := cnt_le (-(N * B : Nat)) (2 * (N * B) + 1) (fun x y => within_in (x := x) (y := y) hn hm hN hD h)
  rw [Int.mul_sub]
  omega
theorem onSeg_rev {a b c : Pt} (hD : 0 < tz b a c.x c.y) (h : lxq a b) (x y : Int) (h1 : inTri b a c x y = true) (h2 : tz b a x y = 0) : onSeg a b x y = true := by
  have k := (side_seg (a := (negQ b)) (b := (negQ a)) (c := (negQ c)) (by show 0 < tz (negQ b) (negQ a) (-c.x) (-c.y); rw [tz_neg]; exact hD) (by unfold lxq negQ at *; dsimp only; omega) (-x) (-y)).1 ⟨by
    rw [inTri_iff] at h1 ⊢
    rw [tz_neg, tz_neg, tz_neg]; exact h1, by rw [tz_neg]; exact h2⟩
  unfold onSeg at k ⊢
  rw [decide_eq_true_eq] at k ⊢
  unfold negQ at k
  dsimp only at k
  refine ⟨by rw [tz_anti]; omega, by omega, by omega, fun e => by have := k.2.2.2 (by omega); omega⟩
theorem side_few {lo : Int} {n : Nat} {a b c : Pt} (hD : 0 < tz b a c.x c.y) (ba : InB lo n a) (bb : InB lo n b) : cnt (fun x y => decide (inTri b a c x y = true ∧ tz b a x y = 0)) lo n ≤ gcdP a b + 1 := by
  rcases lxq_or a b with h | h | ⟨e1, e2⟩
  · rw [← seg_count a b lo n h ba bb]
    refine cnt_le lo n (fun x y hp => ?_)
    rw [decide_eq_true_eq] at hp
    exact onSeg_rev hD h x y hp.1 hp.2
  · rw [tri_seg_count hD h bb ba, gcdP_comm]; exact Int.le_refl _
  · rw [tz_self b a _ _ e1.symm e2.symm] at hD; omega
/-- What has a place more is larger. -/
theorem area_lt {D E : Nat → Pt} {n m B : Nat} (hn : 3 ≤ n) (hm : 3 ≤ m) (hD : Conv D n) (hE : Conv E m) (h : Within D n E m) (bD : ∀ i, i < n → BdP B (D i)) (bE : ∀ i, i < m → BdP B (E i))
    (z a b : Pt) (bz : BdP B z) (ba : BdP B a) (bb : BdP B b) (hab : ∀ N : Nat, 0 < N → ∀ x y, inPoly (fun i => scP N (D i)) (n - 1) x y = true → 0 ≤ tz (scP N a) (scP N b) x y) (hz : tz a b z.x z.y < 0)
    (hin : ∀ i, i + 1 < m → 0 ≤ tz (E i) (E (i + 1)) z.x z.y ∧ 0 ≤ tz (E i) (E (i + 1)) a.x a.y ∧ 0 ≤ tz (E i) (E (i + 1)) b.x b.y) (hcl : 0 ≤ tz (E (m - 1)) (E 0) z.x z.y ∧ 0 ≤ tz (E (m - 1)) (E 0) a.x a.y ∧ 0 ≤ tz (E (m - 1)) (E 0) b.x b.y) : areaAll D n < areaAll E m := by
  have hT : 0 < tz b a z.x z.y := by rw [tz_anti]; omega
  suffices hs : areaAll D n + tz b a z.x z.y ≤ areaAll E m by omega
  refine quad_le (K := bordAll E m - bordAll D n - (gcdP b a + gcdP a z + gcdP z b) + 2 * gcdP a b) (fun N hN => ?_)
  have hNN : (0 : Int) < N * N := Int.mul_pos (by omega) (by omega)
  have hTN : 0 < tz (scP N b) (scP N a) (scP N z).x (scP N z).y := by rw [tz_sc]; exact Int.mul_pos hNN hT
  have h1 := pick_scaled hn hD bD N hN
  have h2 := pick_scaled hm hE bE N hN
  have h3 := pick_tri hTN (bd_sc (N := N) bb) (bd_sc (N := N) ba) (bd_sc (N := N) bz)
  unfold PickTri at h3
  rw [tz_sc, gcd_sc, gcd_sc, gcd_sc] at h3
  have h4 := side_few hTN (bd_sc (N := N) ba) (bd_sc (N := N) bb)
  rw [gcd_sc] at h4
  have h5 := cnt_or (inPoly (fun i => scP N (D i)) (n - 1)) (inTri (scP N b) (scP N a) (scP N z)) (-(N * B : Nat)) (2 * (N * B) + 1)
  have h6 : cnt (fun x y => inPoly (fun i => scP N (D i)) (n - 1) x y || inTri (scP N b) (scP N a) (scP N z) x y) (-(N * B : Nat)) (2 * (N * B) + 1) ≤ cnt (inPoly (fun i => scP N (E i)) (m - 1)) (-(N * B : Nat)) (2 * (N * B) + 1) := by
    refine cnt_le _ _ (fun x y hp => ?_)
    rw [Bool.or_eq_true] at hp
    rcases hp with hp | hp
    · exact within_in hn hm hN hD h hp
    · rw [inPoly_iff]
      refine ⟨fun i hi => ?_, ?_⟩
      · obtain ⟨q1, q2, q3⟩ := hin i (by omega)
        exact tri_in hTN hp (by rw [tz_sc]; exact Int.mul_nonneg (Int.le_of_lt hNN) q3) (by rw [tz_sc]; exact Int.mul_nonneg (Int.le_of_lt hNN) q2) (by rw [tz_sc]; exact Int.mul_nonneg (Int.le_of_lt hNN) q1)
      · obtain ⟨q1, q2, q3⟩ := hcl
        exact tri_in hTN hp (by rw [tz_sc]; exact Int.mul_nonneg (Int.le_of_lt hNN) q3) (by rw [tz_sc]; exact Int.mul_nonneg (Int.le_of_lt hNN) q2) (by rw [tz_sc]; exact Int.mul_nonneg (Int.le_of_lt hNN) q1)
  have h7 : cnt (fun x y => inPoly (fun i => scP N (D i)) (n - 1) x y && inTri (scP N b) (scP N a) (scP N z) x y) (-(N * B : Nat)) (2 * (N * B) + 1) ≤ cnt (fun x y => decide (inTri (scP N b) (scP N a) (scP N z) x y = true ∧ tz (scP N b) (scP N a) x y = 0)) (-(N * B : Nat)) (2 * (N * B) + 1) := by
    refine cnt_le _ _ (fun x y hp => ?_)
    rw [Bool.and_eq_true] at hp
    rw [decide_eq_true_eq]
    refine ⟨hp.2, ?_⟩
    have k1 := hab N hN x y hp.1
    have k2 := ((inTri_iff _ _ _ _ _).1 hp.2).1
    rw [tz_anti] at k2
    rw [tz_anti]; omega
  simp only [Int.natCast_mul] at *
  rw [Int.mul_add, Int.mul_add, Int.mul_sub, Int.mul_sub, Int.mul_add, Int.mul_add]
  have e1 : (N : Int) * (2 * (gcdP a b : Int)) = 2 * (N * gcdP a b) := by grind
  rw [e1]
  omega
/-- The sum of the edges is the area. -/
def crossP (a b : Pt) : Int := a.x * b.y - a.y * b.x
def crossK (D : Nat → Pt) : Nat → Int
  | 0 => 0
  | k + 1 => crossK D k + crossP (D k) (D (k + 1))
theorem cross_area (D : Nat → Pt) : ∀ k, crossK D (k + 1) + crossP (D (k + 1)) (D 0) = areaK D k
  | 0 => by show 0 + crossP _ _ + crossP _ _ = 0; unfold crossP; grind
  | k + 1 => by
    have h := cross_area D k
    show crossK D (k + 1) + crossP (D (k + 1)) (D (k + 2)) + crossP (D (k + 2)) (D 0) = areaK D k + tz (D 0) (D (k + 1)) (D (k + 2)).x (D (k + 2)).y
    rw [← h]
    unfold crossP tz
    grind
theorem area_pos {D : Nat → Pt} {n : Nat} (hC : Conv D n) : ∀ k, k + 1 < n → (0 : Int) ≤ areaK D k ∧ (0 < k → 0 < areaK D k)
  | 0, _ => ⟨Int.le_refl _, fun h => absurd h (by omega)⟩
  | k + 1, h => by
    have := (area_pos hC k (by omega)).1
    have h2 : 0 < tz (D 0) (D (k + 1)) (D (k + 2)).x (D (k + 2)).y := hC.fan (k + 1) (by omega) (by omega)
    have e : areaK D (k + 1) = areaK D k + tz (D 0) (D (k + 1)) (D (k + 2)).x (D (k + 2)).y := rfl
    exact ⟨by omega, fun _ => by omega⟩

end Go.Proofs.Ytlmdlholmlbcbaa.Pick

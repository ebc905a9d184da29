/- Plain facts on squares of codes and on lists of spans. -/
import Derived.Test.YtnieacfleabikaaMorP
namespace Go.Proofs.Ytnieacfleabikaa
set_option linter.unusedVariables false

theorem spr_zero (n : Nat) : spr 1 n 0 = 0 := by
  induction n with
  | zero => rw [spr]
  | succ n ih => rw [spr_one, ih]
theorem spr_more (n x : Nat) (h : x < 2 ^ n) : spr 1 (n + 1) x = spr 1 n x := by
  induction n generalizing x with
  | zero =>
    have : x = 0 := by simpa using h
    subst this
    rw [spr_zero, spr_zero]
  | succ n ih =>
    rw [Nat.pow_succ] at h
    have e1 := spr_one (n + 1) x
    have e2 := spr_one n x
    have e3 := ih (x / 2) (by omega)
    omega
theorem cod_step (x y : Nat) (hx : x < 4294967296) (hy : y < 4294967296) : cod x y = x % 2 + 2 * (y % 2) + 4 * cod (x / 2) (y / 2) := by
  rw [cod_eq, cod_eq, spr_one 31 x, spr_one 31 y, spr_more 31 (x / 2) (by omega), spr_more 31 (y / 2) (by omega)]
  omega
theorem cod_zero : cod 0 0 = 0 := by rw [cod_eq, spr_zero]
theorem cod_blk (k a b dx dy : Nat) (hdx : dx < 2 ^ k) (hdy : dy < 2 ^ k) (hx : 2 ^ k * a + dx < 4294967296) (hy : 2 ^ k * b + dy < 4294967296) :
    cod (2 ^ k * a + dx) (2 ^ k * b + dy) = 4 ^ k * cod a b + cod dx dy := by
  induction k generalizing dx dy with
  | zero =>
    have h1 : dx = 0 := by simpa using hdx
    have h2 : dy = 0 := by simpa using hdy
    subst h1; subst h2
    simp [cod_zero]
  | succ k ih =>
    rw [Nat.pow_succ] at hdx hdy hx hy
    have ea : 2 ^ k * 2 * a = 2 * (2 ^ k * a) := by rw [Nat.mul_comm (2 ^ k) 2, Nat.mul_assoc]
    have eb : 2 ^ k * 2 * b = 2 * (2 ^ k * b) := by rw [Nat.mul_comm (2 ^ k) 2, Nat.mul_assoc]
    rw [ea] at hx
    rw [eb] at hy
    have h := ih (dx / 2) (dy / 2) (by omega) (by omega) (by omega) (by omega)
    rw [Nat.pow_succ, ea, eb, cod_step _ _ hx hy, cod_step dx dy (by omega) (by omega), Nat.pow_succ]
    have e1 : (2 * (2 ^ k * a) + dx) / 2 = 2 ^ k * a + dx / 2 := by omega
    have e2 : (2 * (2 ^ k * b) + dy) / 2 = 2 ^ k * b + dy / 2 := by omega
    have e3 : 4 ^ k * 4 * cod a b = 4 * (4 ^ k * cod a b) := by rw [Nat.mul_comm (4 ^ k) 4, Nat.mul_assoc]
    rw [e1, e2, e3, h]
    omega
theorem cod_small (k dx dy : Nat) (hk : k ≤ 32) (hdx : dx < 2 ^ k) (hdy : dy < 2 ^ k) : cod dx dy < 4 ^ k := by
  induction k generalizing dx dy with
  | zero =>
    have h1 : dx = 0 := by simpa using hdx
    have h2 : dy = 0 := by simpa using hdy
    subst h1; subst h2
    simp [cod_zero]
  | succ k ih =>
    have hp : 2 ^ (k + 1) ≤ 2 ^ 32 := Nat.pow_le_pow_right (by omega) hk
    have h := ih (dx / 2) (dy / 2) (by omega) (by rw [Nat.pow_succ] at hdx; omega) (by rw [Nat.pow_succ] at hdy; omega)
    rw [cod_step dx dy (by omega) (by omega), Nat.pow_succ]
    omega
/-- A place lies in a square if its code lies among the square's. -/
theorem cod_in (k a b p q : Nat) (hk : k ≤ 32) (hp : p < 65536) (hq : q < 65536) (ha : a < 65536) (hb : b < 65536) :
    (4 ^ k * cod a b ≤ cod p q ∧ cod p q < 4 ^ k * cod a b + 4 ^ k) ↔ (2 ^ k * a ≤ p ∧ p < 2 ^ k * a + 2 ^ k ∧ 2 ^ k * b ≤ q ∧ q < 2 ^ k * b + 2 ^ k) := by
  have h2 : 0 < 2 ^ k := Nat.pow_pos (by omega)
  have h4 : 0 < 4 ^ k := Nat.pow_pos (by omega)
  have ep := Nat.div_add_mod p (2 ^ k)
  have eq := Nat.div_add_mod q (2 ^ k)
  have lp := Nat.mod_lt p h2
  have lq := Nat.mod_lt q h2
  have dp := Nat.div_le_self p (2 ^ k)
  have dq := Nat.div_le_self q (2 ^ k)
  have hc := cod_blk k (p / 2 ^ k) (q / 2 ^ k) (p % 2 ^ k) (q % 2 ^ k) lp lq (by omega) (by omega)
  rw [ep, eq] at hc
  have hs := cod_small k _ _ hk lp lq
  constructor
  · rintro ⟨h1, h5⟩
    have hcc : cod (p / 2 ^ k) (q / 2 ^ k) = cod a b := by
      rw [hc] at h1 h5
      generalize cod (p / 2 ^ k) (q / 2 ^ k) = u at *
      generalize cod a b = v at *
      have h6 : u < v + 1 := by
        apply Nat.lt_of_mul_lt_mul_left (a := 4 ^ k)
        rw [Nat.mul_add]; omega
      have h7 : v < u + 1 := by
        apply Nat.lt_of_mul_lt_mul_left (a := 4 ^ k)
        rw [Nat.mul_add]; omega
      omega
    have i1 := ev_cod 32 (p / 2 ^ k) (q / 2 ^ k) (by omega)
    have i2 := ev_cod 32 a b (by omega)
    have j1 := ev_half 32 (p / 2 ^ k) (q / 2 ^ k) (by omega)
    have j2 := ev_half 32 a b (by omega)
    rw [← cod_eq] at i1 i2 j1 j2
    rw [hcc] at i1 j1
    rw [i2] at i1
    rw [j2] at j1
    rw [← i1] at ep
    rw [← j1] at eq
    omega
  · rintro ⟨h1, h3, h5, h6⟩
    have e1 : p / 2 ^ k = a := by
      rw [Nat.div_eq_iff h2]
      have : (a + 1) * 2 ^ k = 2 ^ k * a + 2 ^ k := by rw [Nat.add_mul, Nat.one_mul, Nat.mul_comm]
      have : a * 2 ^ k = 2 ^ k * a := Nat.mul_comm _ _
      omega
    have e2 : q / 2 ^ k = b := by
      rw [Nat.div_eq_iff h2]
      have : (b + 1) * 2 ^ k = 2 ^ k * b + 2 ^ k := by rw [Nat.add_mul, Nat.one_mul, Nat.mul_comm]
      have : b * 2 ^ k = 2 ^ k * b := Nat.mul_comm _ _
      omega
    rw [e1, e2] at hc
    omega

/-- The codes of a list of spans. -/
def tot : List (Nat × Nat) → Nat
  | [] => 0
  | s :: r => (s.2 + 1 - s.1) + tot r
def inn (n : Nat) (l : List (Nat × Nat)) : Bool := l.any fun s => decide (s.1 ≤ n) && decide (n ≤ s.2)
/-- Spans in order, with gaps between them, all below c. -/
def Gap (c : Nat) (l : List (Nat × Nat)) : Prop := l.Pairwise (fun s t => s.2 + 1 < t.1) ∧ ∀ s ∈ l, s.1 ≤ s.2 ∧ s.2 < c
theorem tot_append (l m : List (Nat × Nat)) : tot (l ++ m) = tot l + tot m := by
  induction l with
  | nil => simp [tot]
  | cons s r ih => simp only [List.cons_append, tot, ih]; omega
theorem inn_append (n : Nat) (l m : List (Nat × Nat)) : inn n (l ++ m) = (inn n l || inn n m) := by simp [inn]
theorem Gap.mono {c d : Nat} {l : List (Nat × Nat)} (h : Gap c l) (hc : c ≤ d) : Gap d l := ⟨h.1, fun s hs => ⟨(h.2 s hs).1, Nat.lt_of_lt_of_le (h.2 s hs).2 hc⟩⟩
theorem Gap.nil (c : Nat) : Gap c [] := ⟨.nil, by simp⟩
theorem Gap.front {c a b : Nat} {l : List (Nat × Nat)} (h : Gap c (l ++ [(a, b)])) : Gap a l ∧ a ≤ b ∧ b < c ∧ ∀ s ∈ l, s.2 + 1 < a := by
  have hp := List.pairwise_append.1 h.1
  have hl := h.2 (a, b) (by simp)
  refine ⟨⟨hp.1, fun s hs => ⟨(h.2 s (by simp [hs])).1, ?_⟩⟩, hl.1, hl.2, fun s hs => hp.2.2 s hs (a, b) (by simp)⟩
  have := hp.2.2 s hs (a, b) (by simp)
  simp only at this
  omega
theorem Gap.snoc {c d a b : Nat} {l : List (Nat × Nat)} (h : Gap c l) (hl : ∀ s ∈ l, s.2 + 1 < a) (hab : a ≤ b) (hb : b < d) (hc : c ≤ d) : Gap d (l ++ [(a, b)]) := by
  refine ⟨List.pairwise_append.2 ⟨h.1, by simp, fun s hs t ht => ?_⟩, fun s hs => ?_⟩
  · simp only [List.mem_singleton] at ht
    subst ht
    exact hl s hs
  · rcases List.mem_append.1 hs with hs | hs
    · exact ⟨(h.2 s hs).1, Nat.lt_of_lt_of_le (h.2 s hs).2 hc⟩
    · simp only [List.mem_singleton] at hs
      subst hs
      exact ⟨hab, hb⟩
theorem snoc_ind {α : Type _} {P : List α → Prop} (h0 : P []) (h1 : ∀ l x, P l → P (l ++ [x])) (l : List α) : P l := by
  rw [← List.reverse_reverse l]
  induction l.reverse with
  | nil => exact h0
  | cons x r ih => rw [List.reverse_cons]; exact h1 _ _ ih
theorem Gap.len {c : Nat} {l : List (Nat × Nat)} (h : Gap c l) : l.length ≤ c := by
  revert c
  refine snoc_ind (P := fun l => ∀ {c : Nat}, Gap c l → l.length ≤ c) ?_ ?_ l
  · intro c _; exact Nat.zero_le _
  · rintro l ⟨a, b⟩ ih c h
    obtain ⟨h1, h2, h3, _⟩ := h.front
    have := ih h1
    simp only [List.length_append, List.length_singleton]
    omega

/-- What lies of a side within a bound. -/
def ov (lo hi x m : Nat) : Nat := min (hi + 1) (x + m) - max lo x
theorem ov_two (lo hi x m : Nat) (h : lo ≤ hi) : ov lo hi x (m + m) = ov lo hi x m + ov lo hi (x + m) m := by simp only [ov]; omega
theorem ov_whole (lo hi x m : Nat) (h1 : lo ≤ x) (h2 : x + m ≤ hi + 1) : ov lo hi x m = m := by simp only [ov]; omega
theorem ov_none (lo hi x m : Nat) (h : hi < x ∨ x + m ≤ lo) (hl : lo ≤ hi) : ov lo hi x m = 0 := by simp only [ov]; omega
/-- A place of a rectangle in a square. -/
def plc (X0 Y0 X1 Y1 x y m p q : Nat) : Bool := decide (x ≤ p ∧ p < x + m ∧ y ≤ q ∧ q < y + m ∧ X0 ≤ p ∧ p ≤ X1 ∧ Y0 ≤ q ∧ q ≤ Y1)
theorem plc_four (X0 Y0 X1 Y1 x y m p q : Nat) : plc X0 Y0 X1 Y1 x y (m + m) p q = (plc X0 Y0 X1 Y1 x y m p q || plc X0 Y0 X1 Y1 (x + m) y m p q || plc X0 Y0 X1 Y1 x (y + m) m p q || plc X0 Y0 X1 Y1 (x + m) (y + m) m p q) := by
  simp only [plc, ← Bool.decide_or]
  exact decide_eq_decide.2 (by omega)
/-- The spans l' are the spans l and those of the rectangle's places in a square, whose codes begin at c. -/
structure Cov (X0 Y0 X1 Y1 x y m c : Nat) (l l' : List (Nat × Nat)) : Prop where
  gap : Gap (c + m * m) l'
  sum : tot l' = tot l + ov X0 X1 x m * ov Y0 Y1 y m
  at' : ∀ p q, p < 256 → q < 256 → inn (cod p q) l' = (inn (cod p q) l || plc X0 Y0 X1 Y1 x y m p q)

theorem Cov.none {X0 Y0 X1 Y1 x y m c : Nat} {l : List (Nat × Nat)} (h : Gap c l) (hx : X0 ≤ X1) (hy : Y0 ≤ Y1) (ho : X1 < x ∨ Y1 < y ∨ x + m ≤ X0 ∨ y + m ≤ Y0) : Cov X0 Y0 X1 Y1 x y m c l l := by
  refine ⟨h.mono (by omega), ?_, fun p q _ _ => ?_⟩
  · have : ov X0 X1 x m * ov Y0 Y1 y m = 0 := by
      rw [Nat.mul_eq_zero]
      rcases ho with h | h | h | h
      · exact .inl (ov_none _ _ _ _ (.inl h) hx)
      · exact .inr (ov_none _ _ _ _ (.inl h) hy)
      · exact .inl (ov_none _ _ _ _ (.inr h) hx)
      · exact .inr (ov_none _ _ _ _ (.inr h) hy)
    omega
  · have : plc X0 Y0 X1 Y1 x y m p q = false := by simp only [plc]; exact decide_eq_false (by omega)
    rw [this, Bool.or_false]
theorem Cov.whole {X0 Y0 X1 Y1 k a b : Nat} {l l' : List (Nat × Nat)} (hk : k ≤ 8) (ha : 2 ^ k * a + 2 ^ k ≤ 256) (hb : 2 ^ k * b + 2 ^ k ≤ 256)
    (hx0 : X0 ≤ 2 ^ k * a) (hy0 : Y0 ≤ 2 ^ k * b) (hx1 : 2 ^ k * a + 2 ^ k ≤ X1 + 1) (hy1 : 2 ^ k * b + 2 ^ k ≤ Y1 + 1)
    (hg : Gap (4 ^ k * cod a b + 2 ^ k * 2 ^ k) l') (hs : tot l' = tot l + 2 ^ k * 2 ^ k)
    (hi : ∀ n, inn n l' = (inn n l || (decide (4 ^ k * cod a b ≤ n) && decide (n < 4 ^ k * cod a b + 2 ^ k * 2 ^ k)))) : Cov X0 Y0 X1 Y1 (2 ^ k * a) (2 ^ k * b) (2 ^ k) (4 ^ k * cod a b) l l' := by
  have h2 : 0 < 2 ^ k := Nat.pow_pos (by omega)
  have e4 : 2 ^ k * 2 ^ k = 4 ^ k := by rw [← Nat.mul_pow]
  have la : a ≤ 2 ^ k * a := Nat.le_mul_of_pos_left _ h2
  have lb : b ≤ 2 ^ k * b := Nat.le_mul_of_pos_left _ h2
  refine ⟨hg, by rw [ov_whole _ _ _ _ hx0 hx1, ov_whole _ _ _ _ hy0 hy1]; exact hs, fun p q hp hq => ?_⟩
  rw [hi]
  congr 1
  have h := cod_in k a b p q (by omega) (by omega) (by omega) (by omega) (by omega)
  rw [← Bool.decide_and, e4, plc]
  refine decide_eq_decide.2 (h.trans ?_)
  omega
/-- A span is put behind the others. -/
theorem push_new {c m : Nat} {l : List (Nat × Nat)} (hm : 0 < m) (h : Gap c l) (hl : ∀ s ∈ l, s.2 + 1 ≠ c) : Gap (c + m) (l ++ [(c, c + m - 1)]) ∧ tot (l ++ [(c, c + m - 1)]) = tot l + m ∧
    ∀ n, inn n (l ++ [(c, c + m - 1)]) = (inn n l || (decide (c ≤ n) && decide (n < c + m))) := by
  refine ⟨h.snoc (fun s hs => ?_) (by omega) (by omega) (by omega), ?_, fun n => ?_⟩
  · have h1 := (h.2 s hs).2
    have h2 := hl s hs
    omega
  · rw [tot_append]; simp only [tot]; omega
  · rw [inn_append]
    congr 1
    simp only [inn, List.any_cons, List.any_nil, Bool.or_false]
    congr 1
    exact decide_eq_decide.2 (by omega)
/-- The last span grows. -/
theorem push_join {c m a b : Nat} {l : List (Nat × Nat)} (hm : 0 < m) (h : Gap c (l ++ [(a, b)])) (hb : b + 1 = c) : Gap (c + m) (l ++ [(a, c + m - 1)]) ∧ tot (l ++ [(a, c + m - 1)]) = tot (l ++ [(a, b)]) + m ∧
    ∀ n, inn n (l ++ [(a, c + m - 1)]) = (inn n (l ++ [(a, b)]) || (decide (c ≤ n) && decide (n < c + m))) := by
  obtain ⟨h1, h2, h3, h4⟩ := h.front
  refine ⟨h1.snoc h4 (by omega) (by omega) (by omega), ?_, fun n => ?_⟩
  · rw [tot_append, tot_append]; simp only [tot]; omega
  · rw [inn_append, inn_append, Bool.or_assoc]
    congr 1
    simp only [inn, List.any_cons, List.any_nil, Bool.or_false, ← Bool.decide_and, ← Bool.decide_or]
    exact decide_eq_decide.2 (by omega)
theorem Cov.four {X0 Y0 X1 Y1 x y m c : Nat} {l l1 l2 l3 l4 : List (Nat × Nat)} (hx : X0 ≤ X1) (hy : Y0 ≤ Y1) (h1 : Cov X0 Y0 X1 Y1 x y m c l l1) (h2 : Cov X0 Y0 X1 Y1 (x + m) y m (c + m * m) l1 l2)
    (h3 : Cov X0 Y0 X1 Y1 x (y + m) m (c + m * m + m * m) l2 l3) (h4 : Cov X0 Y0 X1 Y1 (x + m) (y + m) m (c + m * m + m * m + m * m) l3 l4) : Cov X0 Y0 X1 Y1 x y (m + m) c l l4 := by
  refine ⟨h4.gap.mono ?_, ?_, fun p q hp hq => ?_⟩
  · rw [Nat.add_mul, Nat.mul_add]; omega
  · rw [h4.sum, h3.sum, h2.sum, h1.sum, ov_two _ _ _ _ hx, ov_two _ _ _ _ hy, Nat.add_mul, Nat.mul_add, Nat.mul_add]; omega
  · rw [h4.at' p q hp hq, h3.at' p q hp hq, h2.at' p q hp hq, h1.at' p q hp hq, plc_four]
    simp only [Bool.or_assoc]

end Go.Proofs.Ytnieacfleabikaa

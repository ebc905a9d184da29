/- Plain facts on the pairs of a list that stand the wrong way round, and on the sign of an order. -/
import Derived.Test.YtnieacfleabikaaCycP
namespace Go.Proofs.Ytnieacfleabikaa
set_option linter.unusedVariables false

/-- How many of a list are below x. -/
def low (x : Int) (l : List Int) : Nat := l.countP fun y => decide (y < x)
def inv : List Int → Nat
  | [] => 0
  | x :: r => low x r + inv r
/-- Of each of a, how many of b are below it. -/
def cross : List Int → List Int → Nat
  | [], _ => 0
  | x :: r, b => low x b + cross r b
theorem low_append (x : Int) (a b : List Int) : low x (a ++ b) = low x a + low x b := List.countP_append ..
theorem low_perm {x : Int} {a b : List Int} (h : a.Perm b) : low x a = low x b := h.countP_eq _
theorem inv_append (a b : List Int) : inv (a ++ b) = inv a + inv b + cross a b := by
  induction a with
  | nil => simp [inv, cross]
  | cons x r ih => simp only [List.cons_append, inv, cross, low_append, ih]; omega
theorem cross_right {a b c : List Int} (h : b.Perm c) : cross a b = cross a c := by
  induction a with
  | nil => rfl
  | cons x r ih => simp only [cross, ih, low_perm h]
theorem cross_left {a b c : List Int} (h : a.Perm b) : cross a c = cross b c := by
  induction h with
  | nil => rfl
  | cons x _ ih => simp only [cross, ih]
  | swap x y l => simp only [cross]; omega
  | trans _ _ h1 h2 => rw [h1, h2]
theorem cross_nil (a : List Int) : cross a [] = 0 := by
  induction a with
  | nil => rfl
  | cons x r ih => simp [cross, low, ih]
/-- Of each of a: how many are above the first of the other list. -/
theorem cross_cons (a : List Int) (y : Int) (b : List Int) : cross a (y :: b) = (a.countP fun x => decide (y < x)) + cross a b := by
  induction a with
  | nil => rfl
  | cons x r ih =>
    simp only [cross, ih, low, List.countP_cons]
    omega
theorem inv_le (l : List Int) : inv l ≤ l.length * l.length := by
  induction l with
  | nil => exact Nat.zero_le _
  | cons x r ih =>
    have : low x r ≤ r.length := List.countP_le_length
    simp only [inv, List.length_cons, Nat.add_mul, Nat.mul_add]
    omega
theorem cross_le (a b : List Int) : cross a b ≤ a.length * b.length := by
  induction a with
  | nil => simp [cross]
  | cons x r ih =>
    have : low x b ≤ b.length := List.countP_le_length
    simp only [cross, List.length_cons, Nat.add_mul]
    omega

/-- Of two numbers: the parity of how they stand in two lists. -/
def odd2 (u v : Int × Int) : Nat := if (decide (v.1 < u.1)) = (decide (v.2 < u.2)) then 0 else 1
def oddL (u : Int × Int) (l : List (Int × Int)) : Nat := (l.map (odd2 u)).sum
def oddS : List (Int × Int) → Nat
  | [] => 0
  | u :: r => oddL u r + oddS r
theorem oddL_perm {u : Int × Int} {a b : List (Int × Int)} (h : a.Perm b) : oddL u a = oddL u b := (h.map _).sum_nat
theorem odd2_comm {u v : Int × Int} (h1 : u.1 ≠ v.1) (h2 : u.2 ≠ v.2) : odd2 u v = odd2 v u := by
  unfold odd2
  by_cases h3 : v.1 < u.1 <;> by_cases h4 : v.2 < u.2 <;> simp [h3, h4] <;> omega
/-- No two are alike in either. -/
def Apart (l : List (Int × Int)) : Prop := l.Pairwise fun u v => u.1 ≠ v.1 ∧ u.2 ≠ v.2
theorem Apart.perm {a b : List (Int × Int)} (h : Apart a) (hp : a.Perm b) : Apart b :=
  hp.pairwise h (fun h => ⟨h.1.symm, h.2.symm⟩)
theorem oddS_perm {a b : List (Int × Int)} (h : a.Perm b) (ha : Apart a) : oddS a = oddS b := by
  induction h with
  | nil => rfl
  | cons x hp ih => simp only [oddS, oddL_perm hp, ih (List.pairwise_cons.1 ha).2]
  | swap x y l =>
    have h1 := (List.pairwise_cons.1 ha).1 x (by simp)
    simp only [oddS, oddL, List.map_cons, List.sum_cons, odd2_comm h1.1 h1.2]
    omega
  | trans h1 _ i1 i2 => rw [i1 ha, i2 (ha.perm h1)]
theorem oddL_low (u : Int × Int) (l : List (Int × Int)) : (oddL u l + low u.1 (l.map (·.1)) + low u.2 (l.map (·.2))) % 2 = 0 := by
  induction l with
  | nil => rfl
  | cons v r ih =>
    simp only [oddL, low, List.map_cons, List.sum_cons, List.countP_cons] at ih ⊢
    generalize (List.map (odd2 u) r).sum = S at *
    generalize List.countP (fun y => decide (y < u.1)) (List.map (·.1) r) = X at *
    generalize List.countP (fun y => decide (y < u.2)) (List.map (·.2) r) = Y at *
    unfold odd2
    by_cases h3 : v.1 < u.1 <;> by_cases h4 : v.2 < u.2 <;> simp only [h3, h4, decide_true, decide_false, if_true, if_false, Bool.false_eq_true, Bool.true_eq_false] <;> omega
theorem oddS_inv (l : List (Int × Int)) : (oddS l + inv (l.map (·.1)) + inv (l.map (·.2))) % 2 = 0 := by
  induction l with
  | nil => rfl
  | cons v r ih =>
    have := oddL_low v r
    simp only [oddS, inv, List.map_cons]
    omega

theorem order_perm {p : List Int} (h : Order p) : p.Perm (iota p.length) := by
  refine (List.perm_ext_iff_of_nodup h.1 (iota_order p.length).1).2 fun x => ⟨fun hx => ?_, fun hx => ?_⟩
  · have := h.2 x hx
    exact List.mem_iff_getElem.2 ⟨x.toNat, by rw [iota_length]; omega, by rw [iota_get]; omega⟩
  · have := (iota_order p.length).2 x hx
    rw [iota_length] at this
    obtain ⟨i, hi, e⟩ := h.onto x.toNat (by omega)
    rw [Int.toNat_of_nonneg this.1] at e
    rw [← e]; exact List.getElem_mem _
theorem inv_sorted {l : List Int} (h : l.Pairwise (· ≤ ·)) : inv l = 0 := by
  induction l with
  | nil => rfl
  | cons x r ih =>
    rw [List.pairwise_cons] at h
    have : low x r = 0 := by
      refine List.countP_eq_zero.2 fun y hy => ?_
      have := h.1 y hy
      simp; omega
    simp only [inv, this, ih h.2]
theorem iota_pair (n : Nat) : (iota n).Pairwise (· < ·) := by
  refine List.pairwise_iff_getElem.2 fun i j hi hj h => ?_
  rw [iota_get, iota_get]; omega
theorem inv_iota (n : Nat) : inv (iota n) = 0 := inv_sorted ((iota_pair n).imp (by intro a b h; omega))

/-- The order's number at x, beside x. -/
def both (p : List Int) (x : Int) : Int × Int := (x, p.getD x.toNat 0)
theorem both_fst (p l : List Int) : (l.map (both p)).map (·.1) = l := by
  rw [List.map_map]; conv => rhs; rw [← List.map_id l]
  rfl
theorem both_snd (p l : List Int) : (l.map (both p)).map (·.2) = thenL l p := by
  rw [List.map_map]; rfl
theorem iota_snd {p : List Int} : thenL (iota p.length) p = p := by
  apply List.ext_getElem
  · rw [thenL_length, iota_length]
  · intro i h1 h2
    simp [thenL, iota, h2]
theorem both_apart {p l : List Int} (hp : Order p) (hl : l.Nodup) (hr : ∀ x ∈ l, 0 ≤ x ∧ x < p.length) : Apart (l.map (both p)) := by
  refine List.pairwise_map.2 (List.Pairwise.imp_of_mem ?_ hl)
  intro a b ha hb hne
  exact ⟨hne, fun e => hne (order_inj hp (hr a ha) (hr b hb) e)⟩
/-- The sign of an order, read off any list of all places. -/
theorem sign_any {p l : List Int} (hp : Order p) (h : l.Perm (iota p.length)) : (inv p + inv l + inv (thenL l p)) % 2 = 0 := by
  have hap := both_apart hp (iota_order p.length).1 (fun x hx => by have := (iota_order p.length).2 x hx; rwa [iota_length] at this)
  have h1 := oddS_inv (l.map (both p))
  have h2 := oddS_inv ((iota p.length).map (both p))
  have h3 := oddS_perm (h.symm.map (both p)) hap
  rw [both_fst, both_snd] at h1 h2
  rw [iota_snd, inv_iota] at h2
  omega
theorem sign_then {p q : List Int} (hp : Order p) (hq : Order q) (hl : p.length = q.length) : (inv p + inv q + inv (thenL p q)) % 2 = 0 := by
  have := sign_any hq (hl ▸ order_perm hp)
  omega

/-- A cycle turned by one. -/
def turn1 : List Int → List Int
  | [] => []
  | x :: r => r ++ [x]
theorem turn1_perm (c : List Int) : (turn1 c).Perm c := by
  cases c with
  | nil => exact .refl _
  | cons x r => exact List.perm_append_comm
theorem turn1_inv (c : List Int) (h : c.Nodup) : (inv c + inv (turn1 c) + (c.length - 1)) % 2 = 0 := by
  cases c with
  | nil => rfl
  | cons x r =>
    have h1 := List.nodup_cons.1 h
    have e : low x r + cross r [x] = r.length := by
      have hc := cross_cons r x []
      rw [cross_nil] at hc
      rw [hc]
      have h2 := h1.1
      clear h h1 hc
      induction r with
      | nil => rfl
      | cons y s ih =>
        rw [List.mem_cons, not_or] at h2
        have := ih h2.2
        simp only [low, List.countP_cons, List.length_cons] at this ⊢
        by_cases h3 : y < x
        · simp [h3, show ¬ x < y by omega]; omega
        · simp [h3, show x < y by omega]; omega
    simp only [turn1, inv, inv_append, List.length_cons]
    have : low x [] = 0 := rfl
    omega
theorem turn1_get (c : List Int) (j : Nat) (h : j < c.length) : (turn1 c)[j]? = some (c.getD ((j + 1) % c.length) 0) := by
  cases c with
  | nil => simp at h
  | cons x r =>
    rw [List.length_cons] at h
    simp only [turn1, List.length_cons]
    by_cases h2 : j < r.length
    · rw [List.getElem?_append_left h2, Nat.mod_eq_of_lt (by omega)]
      simp [h2]
    · have hj : j = r.length := by omega
      subst hj
      rw [Nat.mod_self, List.getElem?_append_right (Nat.le_refl _)]
      simp
theorem turns_inv (D : List (List Int)) (h : D.flatten.Nodup) (hne : ∀ c ∈ D, c ≠ []) : (inv D.flatten + inv (D.map turn1).flatten + D.flatten.length + D.length) % 2 = 0 ∧ (D.map turn1).flatten.Perm D.flatten ∧ D.length ≤ D.flatten.length := by
  induction D with
  | nil => exact ⟨rfl, .refl _, Nat.le_refl _⟩
  | cons c D ih =>
    rw [List.flatten_cons, List.nodup_append] at h
    obtain ⟨i1, i2, i3⟩ := ih h.2.1 (fun d hd => hne d (List.mem_cons_of_mem _ hd))
    have hc := turn1_inv c h.1
    have hpos : 0 < c.length := List.length_pos_iff.2 (hne c (by simp))
    have e1 : cross (turn1 c) (D.map turn1).flatten = cross c D.flatten := by rw [cross_left (turn1_perm c), cross_right i2]
    refine ⟨?_, ?_, ?_⟩
    · simp only [List.map_cons, List.flatten_cons, inv_append, e1, List.length_append, List.length_cons]
      omega
    · simp only [List.map_cons, List.flatten_cons]
      exact (turn1_perm c).append i2
    · simp only [List.flatten_cons, List.length_append, List.length_cons]; omega
theorem cyc_then {p : List Int} {D : List (List Int)} (hD : Cyc p D) : thenL D.flatten p = (D.map turn1).flatten := by
  unfold thenL
  rw [List.map_flatten]
  congr 1
  apply List.map_congr_left
  intro c hc
  apply List.ext_getElem?
  intro j
  by_cases hj : j < c.length
  · rw [turn1_get c j hj, List.getElem?_map, List.getElem?_eq_getElem hj, Option.map_some, (hD.cyc c hc).2 j hj]
  · have h1 : (turn1 c).length = c.length := (turn1_perm c).length_eq
    rw [List.getElem?_eq_none (by simp; omega), List.getElem?_eq_none (by omega)]
theorem sign_cyc {p : List Int} {D : List (List Int)} (hp : Order p) (hD : Cyc p D) (hl : D.flatten.length = p.length) : (inv p + p.length + D.length) % 2 = 0 ∧ D.length ≤ p.length := by
  have hperm : D.flatten.Perm (iota p.length) := by
    have := order_perm (p := D.flatten) ⟨hD.nd, fun x hx => by rw [hl]; exact hD.rng x hx⟩
    rwa [hl] at this
  have h1 := sign_any hp hperm
  rw [cyc_then hD] at h1
  obtain ⟨h2, _, h4⟩ := turns_inv D hD.nd (fun c hc => (hD.cyc c hc).1)
  omega

/-- Two sorted lists, one put into the other: what is done, and what is still to do. -/
structure Mrg (A B a b o : List Int) (m : Nat) : Prop where
  perm : (o ++ (a ++ b)).Perm (A ++ B)
  so : o.Pairwise (· ≤ ·)
  sa : a.Pairwise (· ≤ ·)
  sb : b.Pairwise (· ≤ ·)
  lo : ∀ x ∈ o, ∀ y ∈ a ++ b, x ≤ y
  cnt : m + cross a b = cross A B
theorem Mrg.start {A B : List Int} (ha : A.Pairwise (· ≤ ·)) (hb : B.Pairwise (· ≤ ·)) : Mrg A B A B [] 0 := ⟨.refl _, .nil, ha, hb, by simp, Nat.zero_add _⟩
theorem so_snoc {o : List Int} {x : Int} (h : o.Pairwise (· ≤ ·)) (hx : ∀ y ∈ o, y ≤ x) : (o ++ [x]).Pairwise (· ≤ ·) :=
  List.pairwise_append.2 ⟨h, by simp, fun a ha b hb => by rw [List.mem_singleton.1 hb]; exact hx a ha⟩
theorem Mrg.left {A B a b o : List Int} {m : Nat} {x y : Int} (h : Mrg A B (x :: a) (y :: b) o m) (hxy : x ≤ y) : Mrg A B a (y :: b) (o ++ [x]) m := by
  have h1 := List.pairwise_cons.1 h.sa
  have h2 := List.pairwise_cons.1 h.sb
  refine ⟨by simpa using h.perm, so_snoc h.so (fun z hz => h.lo z hz x (by simp)), h1.2, h.sb, fun z hz t ht => ?_, ?_⟩
  · rcases List.mem_append.1 hz with hz | hz
    · exact h.lo z hz t (by simp only [List.cons_append, List.mem_cons]; exact .inr ht)
    · rw [List.mem_singleton.1 hz]
      rcases List.mem_append.1 ht with ht | ht
      · exact h1.1 t ht
      · rcases List.mem_cons.1 ht with rfl | ht
        · exact hxy
        · have := h2.1 t ht; omega
  · have h3 := h.cnt
    have : low x (y :: b) = 0 := by
      refine List.countP_eq_zero.2 fun t ht => ?_
      rcases List.mem_cons.1 ht with rfl | ht
      · simp; omega
      · have := h2.1 t ht
        simp; omega
    simp only [cross] at h3
    omega
theorem Mrg.right {A B a b o : List Int} {m : Nat} {x y : Int} (h : Mrg A B (x :: a) (y :: b) o m) (hxy : y < x) : Mrg A B (x :: a) b (o ++ [y]) (m + (a.length + 1)) := by
  have h1 := List.pairwise_cons.1 h.sa
  have h2 := List.pairwise_cons.1 h.sb
  refine ⟨?_, so_snoc h.so (fun z hz => h.lo z hz y (by simp)), h.sa, h2.2, fun z hz t ht => ?_, ?_⟩
  · refine List.Perm.trans ?_ h.perm
    rw [List.append_assoc]
    refine List.Perm.append_left _ ?_
    have := @List.perm_middle Int y (x :: a) b
    exact this.symm
  · rcases List.mem_append.1 hz with hz | hz
    · exact h.lo z hz t (by
        rcases List.mem_append.1 ht with ht | ht
        · exact List.mem_append.2 (.inl ht)
        · exact List.mem_append.2 (.inr (List.mem_cons_of_mem _ ht)))
    · rw [List.mem_singleton.1 hz]
      rcases List.mem_append.1 ht with ht | ht
      · rcases List.mem_cons.1 ht with rfl | ht
        · omega
        · have := h1.1 t ht; omega
      · exact h2.1 t ht
  · have h3 := h.cnt
    rw [cross_cons] at h3
    have : (x :: a).countP (fun z => decide (y < z)) = (x :: a).length := by
      refine List.countP_eq_length.2 fun t ht => ?_
      rcases List.mem_cons.1 ht with rfl | ht
      · simp; omega
      · have := h1.1 t ht
        simp; omega
    rw [this, List.length_cons] at h3
    omega
theorem Mrg.done {A B a b o : List Int} {m : Nat} (h : Mrg A B a b o m) (he : a = [] ∨ b = []) : m = cross A B ∧ (o ++ a ++ b).Pairwise (· ≤ ·) ∧ (o ++ a ++ b).Perm (A ++ B) := by
  refine ⟨?_, ?_, by rw [List.append_assoc]; exact h.perm⟩
  · have := h.cnt
    rcases he with rfl | rfl
    · simpa [cross] using this
    · rw [cross_nil] at this; omega
  · rw [List.append_assoc]
    refine List.pairwise_append.2 ⟨h.so, ?_, h.lo⟩
    rcases he with rfl | rfl
    · exact h.sb
    · rw [List.append_nil]; exact h.sa
theorem Mrg.len {A B a b o : List Int} {m : Nat} (h : Mrg A B a b o m) : o.length + a.length + b.length = A.length + B.length := by
  have := h.perm.length_eq
  simp only [List.length_append] at this
  omega
/-- A list, the pairs of its halves, and those between them. -/
theorem inv_halves {l a b A B : List Int} (h : l = a ++ b) (hA : A.Perm a) (hB : B.Perm b) : inv l = inv a + inv b + cross A B := by
  rw [h, inv_append, cross_left hA, cross_right hB]
theorem inv_two : inv [1, 0] = 1 := by decide
theorem order_two : Order [1, 0] := by
  refine ⟨by decide, ?_⟩
  intro x hx
  simp only [List.mem_cons, List.not_mem_nil, or_false] at hx
  rcases hx with rfl | rfl <;> decide
attribute [irreducible] inv cross low

end Go.Proofs.Ytnieacfleabikaa

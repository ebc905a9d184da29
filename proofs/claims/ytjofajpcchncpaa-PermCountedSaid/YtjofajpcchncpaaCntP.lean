/- Plain facts on the numbers of orders. -/
import Derived.Test.YtjofajpcchncpaaPermP
namespace Go.Proofs.Ytjofajpcchncpaa
set_option linter.unusedVariables false

def facN : Nat → Nat
  | 0 => 1
  | k + 1 => (k + 1) * facN k
theorem facN_pos : ∀ k, 0 < facN k
  | 0 => by decide
  | k + 1 => Nat.mul_pos (by omega) (facN_pos k)
/-- How many behind place i are less than what stands there. -/
def lessN (p : List Int) (i : Nat) : Nat := (p.drop (i + 1)).countP fun y => decide (y < p.getD i 0)
def numL (p : List Int) : Nat → Nat
  | 0 => 0
  | i + 1 => numL p i * (p.length - i) + lessN p i
theorem numL_zero (p : List Int) : numL p 0 = 0 := rfl
theorem numL_succ (p : List Int) (i : Nat) : numL p (i + 1) = numL p i * (p.length - i) + lessN p i := rfl
theorem lessN_lt (p : List Int) (i : Nat) (h : i < p.length) : lessN p i < p.length - i := by
  have : lessN p i ≤ (p.drop (i + 1)).length := List.countP_le_length
  rw [List.length_drop] at this
  omega
theorem numL_div (p : List Int) (i : Nat) (h : i < p.length) : numL p (i + 1) / (p.length - i) = numL p i ∧ numL p (i + 1) % (p.length - i) = lessN p i := by
  have h1 := lessN_lt p i h
  rw [numL_succ, Nat.mul_comm]
  refine ⟨?_, ?_⟩
  · rw [Nat.mul_add_div (by omega), Nat.div_eq_of_lt h1, Nat.add_zero]
  · rw [Nat.mul_add_mod, Nat.mod_eq_of_lt h1]
theorem numL_fac (p : List Int) : ∀ i, i ≤ p.length → (numL p i + 1) * facN (p.length - i) ≤ facN p.length
  | 0, _ => by rw [numL_zero, Nat.sub_zero]; simp
  | i + 1, h => by
    have ih := numL_fac p i (by omega)
    have h1 := lessN_lt p i h
    obtain ⟨m, hm⟩ : ∃ m, p.length - i = m + 1 := ⟨p.length - i - 1, by omega⟩
    rw [numL_succ, show p.length - (i + 1) = m by omega, hm]
    rw [hm] at ih h1
    refine Nat.le_trans ?_ ih
    show (numL p i * (m + 1) + lessN p i + 1) * facN m ≤ (numL p i + 1) * ((m + 1) * facN m)
    rw [← Nat.mul_assoc]
    refine Nat.mul_le_mul_right _ ?_
    rw [Nat.add_mul, Nat.one_mul]; omega
theorem numL_lt (p : List Int) : numL p p.length < facN p.length := by
  have := numL_fac p p.length (Nat.le_refl _)
  rw [Nat.sub_self] at this
  simp only [facN, Nat.mul_one] at this
  omega

/-- What is left of a number when the digits from place i on are taken off. -/
def restN (n x i : Nat) : Nat := x / facN (n - i)
theorem restN_full (n x : Nat) : restN n x n = x := by unfold restN; rw [Nat.sub_self]; simp [facN]
theorem restN_step (n x i : Nat) (h : i < n) : restN n x i = restN n x (i + 1) / (n - i) := by
  obtain ⟨m, hm⟩ : ∃ m, n - i = m + 1 := ⟨n - i - 1, by omega⟩
  unfold restN
  rw [hm, show n - (i + 1) = m by omega, Nat.div_div_eq_div_mul, Nat.mul_comm]
  rfl
theorem restN_zero (n x : Nat) (h : x < facN n) : restN n x 0 = 0 := by unfold restN; exact Nat.div_eq_of_lt h
theorem restN_fac (n : Nat) : restN n (facN n) 0 = 1 := by unfold restN; exact Nat.div_self (facN_pos n)
theorem restN_le (n x i : Nat) : restN n x i ≤ x := Nat.div_le_self _ _
def digN (n x i : Nat) : Nat := restN n x (i + 1) % (n - i)
theorem digN_lt (n x i : Nat) (h : i < n) : digN n x i < n - i := Nat.mod_lt _ (by omega)
/-- The digits of the number of an order are those that were counted. -/
theorem rest_num (p : List Int) : ∀ d i, i + d = p.length → restN p.length (numL p p.length) i = numL p i
  | 0, i, h => by
    obtain rfl : i = p.length := by omega
    exact restN_full _ _
  | d + 1, i, h => by
    rw [restN_step _ _ _ (by omega), rest_num p d (i + 1) (by omega)]
    exact (numL_div p i (by omega)).1
theorem dig_num (p : List Int) (i : Nat) (h : i < p.length) : digN p.length (numL p p.length) i = lessN p i := by
  unfold digN
  rw [rest_num p (p.length - (i + 1)) (i + 1) (by omega)]
  exact (numL_div p i h).2

/-- Places taken out of what is left, one by one. -/
def pull : List Nat → List Int → List Int
  | [], _ => []
  | d :: ds, L => L.getD d 0 :: pull ds (L.eraseIdx d)
theorem pull_nil (L : List Int) : pull [] L = [] := rfl
theorem pull_cons (d : Nat) (ds : List Nat) (L : List Int) : pull (d :: ds) L = L.getD d 0 :: pull ds (L.eraseIdx d) := rfl
theorem pull_length (ds : List Nat) : ∀ L, (pull ds L).length = ds.length := by
  induction ds with
  | nil => intro L; rfl
  | cons d ds ih => intro L; rw [pull_cons, List.length_cons, ih, List.length_cons]
/-- A rising list. -/
def Rises (L : List Int) : Prop := L.Pairwise (· < ·)
theorem rises_erase {L : List Int} (h : Rises L) (d : Nat) : Rises (L.eraseIdx d) := List.Pairwise.sublist (List.eraseIdx_sublist _ _) h
theorem rises_count {L : List Int} (h : Rises L) (d : Nat) (hd : d < L.length) : (L.eraseIdx d).countP (fun y => decide (y < L[d])) = d := by
  induction L generalizing d with
  | nil => simp at hd
  | cons x L ih =>
    have h1 := List.pairwise_cons.1 h
    cases d with
    | zero =>
      simp only [List.eraseIdx_zero, List.tail_cons, List.getElem_cons_zero]
      rw [List.countP_eq_zero]
      intro y hy
      have := h1.1 y hy
      simp; omega
    | succ d =>
      have hd' : d < L.length := by simp at hd; omega
      simp only [List.eraseIdx_cons_succ, List.getElem_cons_succ, List.countP_cons]
      rw [ih h1.2 d hd']
      have := h1.1 L[d] (List.getElem_mem hd')
      simp [this]
theorem perm_erase : ∀ (L : List Int) (d : Nat) (hd : d < L.length), (L[d] :: L.eraseIdx d).Perm L
  | [], _, hd => by simp at hd
  | x :: L, 0, _ => List.Perm.refl _
  | x :: L, d + 1, hd => (List.Perm.swap _ _ _).trans ((perm_erase L d (by simpa using hd)).cons x)
/-- Digits, and the order that they pull out of a rising list. -/
def Digs : List Nat → Nat → Prop
  | [], m => m = 0
  | d :: ds, m => ∃ k, m = k + 1 ∧ d < m ∧ Digs ds k
theorem pull_perm (ds : List Nat) : ∀ L, Digs ds L.length → (pull ds L).Perm L := by
  induction ds with
  | nil => intro L h; rw [pull_nil, List.length_eq_zero_iff.1 h]
  | cons d ds ih =>
    intro L ⟨k, hk, hd, h⟩
    rw [pull_cons, getD_at _ _ hd]
    have := ih (L.eraseIdx d) (by rw [List.length_eraseIdx, if_pos hd, hk, Nat.add_sub_cancel]; exact h)
    exact (this.cons _).trans (perm_erase L d hd)
theorem pull_less (ds : List Nat) : ∀ L, Rises L → Digs ds L.length → ∀ i (hi : i < ds.length), lessN (pull ds L) i = ds[i] := by
  induction ds with
  | nil => intro L _ _ i hi; simp at hi
  | cons d ds ih =>
    intro L hr ⟨k, hk, hd, h⟩ i hi
    have hl : (L.eraseIdx d).length = k := by rw [List.length_eraseIdx, if_pos hd, hk, Nat.add_sub_cancel]
    cases i with
    | zero =>
      unfold lessN
      rw [pull_cons]
      simp only [Nat.zero_add, List.drop_succ_cons, List.drop_zero, List.getD_cons_zero, List.getElem_cons_zero]
      rw [(pull_perm ds (L.eraseIdx d) (by rw [hl]; exact h)).countP_eq, getD_at _ _ hd]
      exact rises_count hr d hd
    | succ i =>
      have := ih (L.eraseIdx d) (rises_erase hr d) (by rw [hl]; exact h) i (by simpa using hi)
      unfold lessN at *
      rw [pull_cons]
      simpa using this
/-- An order comes back from what was counted in it. -/
theorem pull_back (p : List Int) : ∀ L, Rises L → p.Perm L → pull ((List.range p.length).map (lessN p)) L = p := by
  induction p with
  | nil => intro L _ hp; rw [← hp.nil_eq]; rfl
  | cons x p ih =>
    intro L hr hp
    have hx : x ∈ L := hp.subset (List.mem_cons_self ..)
    obtain ⟨d, hd, hdx⟩ := List.getElem_of_mem hx
    have hc : (x :: p).Perm (L[d] :: L.eraseIdx d) := hp.trans (perm_erase L d hd).symm
    rw [hdx] at hc
    have hc2 := List.Perm.cons_inv hc
    have h0 : lessN (x :: p) 0 = d := by
      unfold lessN
      simp only [Nat.zero_add, List.drop_succ_cons, List.drop_zero, List.getD_cons_zero]
      rw [hc2.countP_eq, ← hdx]
      exact rises_count hr d hd
    have hs : ∀ i, lessN (x :: p) (i + 1) = lessN p i := fun i => by unfold lessN; simp
    rw [List.length_cons, List.range_succ_eq_map, List.map_cons, List.map_map, pull_cons, h0, getD_at _ _ hd, hdx]
    congr 1
    rw [show (lessN (x :: p)) ∘ Nat.succ = lessN p from funext hs]
    exact ih _ (rises_erase hr d) hc2
theorem digs_of (n : Nat) (f : Nat → Nat) (h : ∀ i, i < n → f i < n - i) : ∀ d i, i + d = n → Digs ((List.range d).map fun j => f (i + j)) d
  | 0, _, _ => rfl
  | d + 1, i, he => by
    rw [List.range_succ_eq_map, List.map_cons, List.map_map]
    refine ⟨d, rfl, by have := h i (by omega); rw [Nat.add_zero]; omega, ?_⟩
    have := digs_of n f h d (i + 1) (by omega)
    rwa [show ((fun j => f (i + j)) ∘ Nat.succ) = fun j => f (i + 1 + j) from funext fun j => by show f (i + (j + 1)) = _; congr 1; omega]
theorem iota_rises (n : Nat) : Rises (iota n) := by
  unfold Rises iota
  rw [List.pairwise_map]
  exact List.Pairwise.imp (fun h => by show ((_ : Nat) : Int) < ((_ : Nat) : Int); omega) List.pairwise_lt_range
theorem order_perm {p : List Int} (h : Order p) : p.Perm (iota p.length) := by
  refine (List.perm_ext_iff_of_nodup h.1 (iota_order _).1).2 fun a => ⟨fun ha => ?_, fun ha => ?_⟩
  · have := h.2 a ha
    unfold iota
    exact List.mem_map.2 ⟨a.toNat, List.mem_range.2 (by omega), by show ((a.toNat : Nat) : Int) = a; omega⟩
  · unfold iota at ha
    obtain ⟨j, hj, rfl⟩ := List.mem_map.1 ha
    obtain ⟨i, hi, he⟩ := h.onto j (List.mem_range.1 hj)
    show ((j : Nat) : Int) ∈ p
    rw [← he]; exact List.getElem_mem hi
/-- The order with a number. -/
def ordL (n x : Nat) : List Int := pull ((List.range n).map (digN n x)) (iota n)
theorem ordL_length (n x : Nat) : (ordL n x).length = n := by unfold ordL; rw [pull_length]; simp
theorem ordL_back {p : List Int} (h : Order p) : ordL p.length (numL p p.length) = p := by
  unfold ordL
  rw [List.map_congr_left (g := lessN p) (fun i hi => dig_num p i (List.mem_range.1 hi))]
  exact pull_back p _ (iota_rises _) (order_perm h)
theorem ordL_digs (n x : Nat) : Digs ((List.range n).map (digN n x)) (iota n).length := by
  rw [iota_length]
  have := digs_of n (digN n x) (fun i hi => digN_lt n x i hi) n 0 (by omega)
  simpa using this
theorem ordL_perm (n x : Nat) : (ordL n x).Perm (iota n) := pull_perm _ _ (ordL_digs n x)
theorem ordL_order (n x : Nat) : Order (ordL n x) := by
  have hp := ordL_perm n x
  have hi := iota_order n
  refine ⟨hp.nodup_iff.2 hi.1, fun y hy => ?_⟩
  rw [ordL_length]
  have := hi.2 y (hp.subset hy)
  rwa [iota_length] at this
theorem ordL_less (n x i : Nat) (h : i < n) : lessN (ordL n x) i = digN n x i := by
  have := pull_less _ (iota n) (iota_rises n) (ordL_digs n x) i (by simpa using h)
  unfold ordL
  rw [this]; simp
theorem ordL_num (n x : Nat) (h : x < facN n) : ∀ i, i ≤ n → numL (ordL n x) i = restN n x i
  | 0, _ => by rw [numL_zero, restN_zero n x h]
  | i + 1, hi => by
    rw [numL_succ, ordL_num n x h i (by omega), ordL_length, ordL_less n x i (by omega), restN_step n x i (by omega)]
    unfold digN
    rw [Nat.mul_comm]
    exact Nat.div_add_mod _ _
theorem num_ordL (n x : Nat) (h : x < facN n) : numL (ordL n x) n = x := by rw [ordL_num n x h n (Nat.le_refl _), restN_full]

theorem countP_lt {P Q : Int → Bool} : ∀ (l : List Int), (∀ x ∈ l, P x = true → Q x = true) → (∃ a ∈ l, Q a = true ∧ P a = false) → l.countP P < l.countP Q
  | [], _, h => by obtain ⟨a, ha, _⟩ := h; cases ha
  | x :: l, h1, h2 => by
    have hmono : l.countP P ≤ l.countP Q := List.countP_mono_left (fun y hy hp => h1 y (List.mem_cons_of_mem _ hy) hp)
    rw [List.countP_cons, List.countP_cons]
    obtain ⟨a, ha, hq, hp⟩ := h2
    rcases List.mem_cons.1 ha with rfl | ha
    · rw [hq, hp]; simp; omega
    · have ih := countP_lt l (fun y hy => h1 y (List.mem_cons_of_mem _ hy)) ⟨a, ha, hq, hp⟩
      have hx := h1 x (List.mem_cons_self ..)
      cases hpx : P x
      · simp; split <;> omega
      · rw [hx hpx]; simp; omega
theorem drop_perm {p q : List Int} (h : p.Perm q) (k : Nat) (ht : p.take k = q.take k) : (p.drop k).Perm (q.drop k) := by
  rw [← List.take_append_drop k p, ← List.take_append_drop k q, ht] at h
  exact (List.perm_append_left_iff _).1 h
theorem take_same {p q : List Int} (i k : Nat) (h : ∀ j, j < i → p[j]? = q[j]?) (hk : k ≤ i) : p.take k = q.take k := by
  apply List.ext_getElem?
  intro j
  by_cases hj : j < k
  · rw [List.getElem?_take_of_lt hj, List.getElem?_take_of_lt hj]; exact h j (by omega)
  · rw [List.getElem?_eq_none (by simp; omega), List.getElem?_eq_none (by simp; omega)]
theorem num_same {p q : List Int} (h : p.Perm q) (i : Nat) (hs : ∀ j, j < i → p[j]? = q[j]?) (hi : i ≤ p.length) : ∀ k, k ≤ i → numL p k = numL q k
  | 0, _ => rfl
  | k + 1, hk => by
    rw [numL_succ, numL_succ, num_same h i hs hi k (by omega), h.length_eq]
    congr 1
    unfold lessN
    rw [(drop_perm h (k + 1) (take_same i (k + 1) hs hk)).countP_eq]
    have h1 := hs k (by omega)
    have e0 : p.getD k 0 = q.getD k 0 := by simp [List.getD, h1]
    rw [e0]
theorem num_lt {p q : List Int} (h : p.Perm q) (i : Nat) (hs : ∀ j, j < i → p[j]? = q[j]?) (hi : i < p.length) (hi2 : i < q.length) (hlt : p[i] < q[i]) : numL p p.length < numL q q.length := by
  have hl := h.length_eq
  have hd := drop_perm h i (take_same i i hs (Nat.le_refl _))
  have e1 : lessN p i = (q.drop i).countP (fun y => decide (y < p[i])) := by
    unfold lessN
    rw [getD_at _ _ hi, ← hd.countP_eq, List.drop_eq_getElem_cons hi, List.countP_cons]
    simp
  have e2 : lessN q i = (q.drop i).countP (fun y => decide (y < q[i])) := by
    unfold lessN
    rw [getD_at _ _ hi2, List.drop_eq_getElem_cons hi2, List.countP_cons]
    simp
  have e3 : lessN p i < lessN q i := by
    rw [e1, e2]
    refine countP_lt _ (fun y _ hy => ?_) ⟨p[i], ?_, ?_, ?_⟩
    · simp only [decide_eq_true_eq] at hy ⊢; omega
    · exact hd.subset (by rw [List.drop_eq_getElem_cons hi]; exact List.mem_cons_self ..)
    · simpa using hlt
    · simp
  have hchain : ∀ d, i + 1 + d ≤ p.length → numL p (i + 1 + d) < numL q (i + 1 + d) := by
    intro d
    induction d with
    | zero =>
      intro _
      rw [Nat.add_zero, numL_succ, numL_succ, num_same h i hs (by omega) i (Nat.le_refl _), hl]
      omega
    | succ d ih =>
      intro hle
      have ih := ih (by omega)
      have h1 := lessN_lt p (i + 1 + d) (by omega)
      rw [← Nat.add_assoc, numL_succ, numL_succ, ← hl]
      have h2 : (numL p (i + 1 + d) + 1) * (p.length - (i + 1 + d)) ≤ numL q (i + 1 + d) * (p.length - (i + 1 + d)) := Nat.mul_le_mul_right _ ih
      rw [Nat.add_mul, Nat.one_mul] at h2
      omega
  have := hchain (p.length - (i + 1)) (by omega)
  rwa [show i + 1 + (p.length - (i + 1)) = p.length by omega, show numL q p.length = numL q q.length by rw [hl]] at this
theorem orders_perm {p q : List Int} (hp : Order p) (hq : Order q) (hl : q.length = p.length) : p.Perm q := by
  have h1 := order_perm hp
  have h2 := order_perm hq
  rw [hl] at h2
  exact h1.trans h2.symm
/-- At the first place where two orders part, the lesser one has the lesser number. -/
theorem num_parts {p q : List Int} (hp : Order p) (hq : Order q) (hl : q.length = p.length) (i : Nat) (hs : ∀ j, j < i → p[j]? = q[j]?) (hi : i < p.length) (hi2 : i < q.length) (hne : p[i] ≠ q[i]) :
    decide (p[i] < q[i]) = decide (numL p p.length < numL q q.length) := by
  have hpq := orders_perm hp hq hl
  by_cases h : p[i] < q[i]
  · rw [decide_eq_true h, decide_eq_true (num_lt hpq i hs hi hi2 h)]
  · have := num_lt hpq.symm i (fun j hj => (hs j hj).symm) hi2 hi (by omega)
    rw [decide_eq_false h, decide_eq_false (by omega)]
theorem facN_succ (k : Nat) : facN (k + 1) = (k + 1) * facN k := rfl
theorem facN_one : facN 1 = 1 := rfl
theorem fac_mono (i : Nat) : ∀ j, i ≤ j → facN i ≤ facN j
  | 0, h => by obtain rfl : i = 0 := by omega
               exact Nat.le_refl _
  | j + 1, h => by
    by_cases hij : i = j + 1
    · subst hij; exact Nat.le_refl _
    · have h1 := fac_mono i j (by omega)
      have h2 : 1 * facN j ≤ (j + 1) * facN j := Nat.mul_le_mul_right _ (by omega)
      rw [facN_succ]; omega
theorem fac_bd : ∀ n, n ≤ 12 → facN n ≤ 479001600 := by decide
theorem num_bd (p : List Int) (i : Nat) (hi : i ≤ p.length) (h : p.length ≤ 12) : numL p i ≤ 479001600 := by
  have h1 := numL_fac p i hi
  have h2 := fac_bd _ h
  have h3 := facN_pos (p.length - i)
  have h4 : (numL p i + 1) * 1 ≤ (numL p i + 1) * facN (p.length - i) := Nat.mul_le_mul_left _ h3
  omega
/-- The count over the first k behind place j. -/
def lessK (p : List Int) (j k : Nat) : Nat := ((p.drop (j + 1)).take k).countP fun y => decide (y < p.getD j 0)
theorem lessK_zero (p : List Int) (j : Nat) : lessK p j 0 = 0 := by simp [lessK]
theorem lessK_succ (p : List Int) (j k : Nat) (h : j + 1 + k < p.length) : lessK p j (k + 1) = lessK p j k + if p[j + 1 + k] < p.getD j 0 then 1 else 0 := by
  unfold lessK
  rw [List.take_succ_eq_append_getElem (by simp; omega), List.countP_append]
  simp
theorem lessK_end (p : List Int) (j : Nat) : lessK p j (p.length - (j + 1)) = lessN p j := by
  unfold lessK lessN
  rw [List.take_of_length_le (by simp)]
theorem lessK_le (p : List Int) (j k : Nat) : lessK p j k ≤ k := Nat.le_trans List.countP_le_length (List.length_take_le _ _)
attribute [irreducible] lessK
attribute [irreducible] facN lessN numL restN digN ordL pull

end Go.Proofs.Ytjofajpcchncpaa

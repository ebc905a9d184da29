import Derived.Test.YteeeikninigeoaaGreatDoorMg7
import Derived.Test.YteeeikninigeoaaGreatDoorMg4
import Derived.Test.YteeeikninigeoaaGreatDoorMg6
/- Plain facts on how many bits are set ahead of a place. -/
namespace Go.Proofs.YteeeikninigeoaaGreatDoor
set_option linter.unusedVariables false

theorem pcn_succ (i N : Nat) : pcn (i + 1) N = pcn i N + (if bitB N i then 1 else 0) := by
  rw [pcn_add, pcn_one]
  have := Nat.mod_two_eq_zero_or_one (N / 2 ^ i)
  unfold bitB
  rcases this with h | h <;> rw [h] <;> rfl
theorem pcn_words (N q : Nat) : pcn (64 * (q + 1)) N = pcn (64 * q) N + pcn 64 (wrd N q) := by
  rw [Nat.mul_add, Nat.mul_one, pcn_add]
  unfold wrd
  rw [pcn_mod 64 64 _ (Nat.le_refl _)]
theorem pcn_rest (N q r : Nat) (h : r ≤ 64) : pcn (64 * q + r) N = pcn (64 * q) N + pcn r (wrd N q) := by
  rw [pcn_add]
  unfold wrd
  rw [pcn_mod 64 r (N / 2 ^ (64 * q) % 2 ^ 64) h |>.symm]
  have := pcn_mod 64 64 (N / 2 ^ (64 * q)) (Nat.le_refl _)
  congr 1
  rw [Nat.mod_mod_of_dvd _ (Nat.pow_dvd_pow 2 h)]
  exact (pcn_mod 64 r _ h).symm
/-- How many of the first i are set. -/
def cntB (l : List Bool) (i : Nat) : Nat := (l.take i).count true
theorem cntB_zero (l : List Bool) : cntB l 0 = 0 := by simp [cntB]
theorem cntB_succ (l : List Bool) (i : Nat) (h : i < l.length) : cntB l (i + 1) = cntB l i + (if l[i] then 1 else 0) := by
  unfold cntB
  rw [List.take_succ_eq_append_getElem h, List.count_append]
  cases l[i] <;> simp
theorem cntB_le (l : List Bool) (i : Nat) : cntB l i ≤ i := Nat.le_trans List.count_le_length (List.length_take_le _ _)
theorem pcn_bits (l : List Bool) (i : Nat) (h : i ≤ l.length) : pcn i (bitsN l l.length) = cntB l i := by
  induction i with
  | zero => rw [pcn_none, cntB_zero]
  | succ i ih =>
    rw [pcn_succ, ih (by omega), cntB_succ l i h, bitsN_at l _ i h, getD_at _ _ h]
theorem cntB_append (l m : List Bool) (k : Nat) : cntB (l ++ m) k = cntB l (min k l.length) + cntB m (k - l.length) := by
  unfold cntB
  rw [List.take_append, List.count_append]
  congr 2
  by_cases h : k ≤ l.length
  · rw [Nat.min_eq_left h]
  · rw [Nat.min_eq_right (by omega), List.take_of_length_le (by omega), List.take_of_length_le (by omega)]
attribute [irreducible] cntB
end Go.Proofs.YteeeikninigeoaaGreatDoor

/- Plain facts on waves: a list turned level by level, ranges of it, and what is counted in them. -/
namespace Go.Proofs.YteeeikninigeoaaGreatDoor
set_option linter.unusedVariables false

theorem div_step (y k : Nat) : y / 2 ^ k = 2 * (y / 2 ^ (k + 1)) + (if bitB y k = true then 1 else 0) := by
  have h1 : y / 2 ^ (k + 1) = y / 2 ^ k / 2 := by rw [Nat.pow_succ, Nat.div_div_eq_div_mul]
  have h2 : bitB y k = (y / 2 ^ k % 2 == 1) := by unfold bitB; rfl
  rw [h1, h2]
  generalize y / 2 ^ k = z
  have : z % 2 = 0 ∨ z % 2 = 1 := by omega
  rcases this with h | h <;> simp [h] <;> omega

def stepL (k : Nat) (l : List Nat) : List Nat := l.filter (fun x => bitB x k == false) ++ l.filter (fun x => bitB x k == true)
def rowL (k : Nat) (l : List Nat) : List Bool := l.map fun x => bitB x k
theorem rowL_length (k : Nat) (l : List Nat) : (rowL k l).length = l.length := by simp [rowL]
theorem stepL_perm (k : Nat) (l : List Nat) : (stepL k l).Perm l := by
  unfold stepL
  have := List.filter_append_perm (fun x => bitB x k == false) l
  have e : (fun x => bitB x k == true) = fun x => !(bitB x k == false) := by funext x; cases bitB x k <;> rfl
  rw [e]; exact this
theorem stepL_length (k : Nat) (l : List Nat) : (stepL k l).length = l.length := (stepL_perm k l).length_eq
/-- The list behind j of K levels. -/
def lst (K : Nat) (l : List Nat) : Nat → List Nat
  | 0 => l
  | j + 1 => stepL (K - 1 - j) (lst K l j)
theorem lst_zero (K : Nat) (l : List Nat) : lst K l 0 = l := rfl
theorem lst_succ (K : Nat) (l : List Nat) (j : Nat) : lst K l (j + 1) = stepL (K - 1 - j) (lst K l j) := rfl
theorem lst_length (K : Nat) (l : List Nat) (j : Nat) : (lst K l j).length = l.length := by
  induction j with
  | zero => rfl
  | succ j ih => rw [lst_succ, stepL_length, ih]
/-- The rows of a wave of K levels. -/
def rowAt (K : Nat) (l : List Nat) (j : Nat) : List Bool := rowL (K - 1 - j) (lst K l j)
theorem rowAt_length (K : Nat) (l : List Nat) (j : Nat) : (rowAt K l j).length = l.length := by rw [rowAt, rowL_length, lst_length]

/-- Where a place comes to. -/
def dwn (E : List Bool) (i : Nat) (one : Bool) : Nat := if one = true then E.length - cntB E E.length + cntB E i else i - cntB E i
/-- A range of a list. -/
def sg (l : List Nat) (a b : Nat) : List Nat := (l.take b).drop a
theorem sg_length (l : List Nat) (a b : Nat) (h : b ≤ l.length) : (sg l a b).length = b - a := by
  simp [sg]; omega
theorem sg_split (l : List Nat) (a b : Nat) (h : a ≤ b) : l.take b = l.take a ++ sg l a b := by
  have h1 := List.take_append_drop a (l.take b)
  rw [List.take_take, Nat.min_eq_left h] at h1
  exact h1.symm
theorem sg_join (l : List Nat) (a m b : Nat) (h1 : a ≤ m) (h2 : m ≤ b) (h3 : b ≤ l.length) : sg l a b = sg l a m ++ sg l m b := by
  have h := sg_split l m b h2
  unfold sg at *
  rw [h, List.drop_append_of_le_length (by simp; omega)]
  congr 1
  rw [← h]
theorem sg_one (l : List Nat) (i : Nat) (h : i < l.length) : sg l i (i + 1) = [l[i]] := by
  unfold sg
  rw [List.take_succ_eq_append_getElem h, List.drop_append_of_le_length (by simp; omega), List.drop_eq_nil_of_le (by simp; omega)]; rfl

theorem filter_le (l : List Nat) (p : Nat → Bool) (i : Nat) : ((l.take i).filter p).length ≤ (l.filter p).length := by
  have h : l.filter p = (l.take i).filter p ++ (l.drop i).filter p := by rw [← List.filter_append, List.take_append_drop]
  rw [h, List.length_append]; omega
theorem filter_front (l : List Nat) (p : Nat → Bool) (i : Nat) : (l.filter p).take ((l.take i).filter p).length = (l.take i).filter p := by
  have h : l.filter p = (l.take i).filter p ++ (l.drop i).filter p := by rw [← List.filter_append, List.take_append_drop]
  rw [h, List.take_left']
  rfl
theorem cnt_row (k : Nat) (l : List Nat) (i : Nat) : cntB (rowL k l) i = ((l.take i).filter fun x => bitB x k == true).length := by
  unfold cntB rowL
  rw [← List.map_take]
  generalize l.take i = m
  induction m with
  | nil => rfl
  | cons x m ih =>
    rw [List.map_cons, List.count_cons, ih, List.filter_cons]
    cases bitB x k <;> simp
theorem cnt_zeros (k : Nat) (l : List Nat) (i : Nat) (h : i ≤ l.length) : i - cntB (rowL k l) i = ((l.take i).filter fun x => bitB x k == false).length := by
  rw [cnt_row]
  have h1 := (stepL_perm k (l.take i)).length_eq
  unfold stepL at h1
  rw [List.length_append, List.length_take, Nat.min_eq_left h] at h1
  omega
theorem dwn_eq (k : Nat) (l : List Nat) (i : Nat) (h : i ≤ l.length) (o : Bool) :
    dwn (rowL k l) i o = (if o = true then (l.filter fun x => bitB x k == false).length else 0) + ((l.take i).filter fun x => bitB x k == o).length := by
  unfold dwn
  cases o with
  | false => rw [if_neg (by simp), if_neg (by simp), cnt_zeros k l i h, Nat.zero_add]
  | true =>
    rw [if_pos rfl, if_pos rfl]
    have := cnt_zeros k l l.length (Nat.le_refl _)
    rw [List.take_length] at this
    rw [rowL_length, this, cnt_row]
theorem dwn_take (k : Nat) (l : List Nat) (i : Nat) (h : i ≤ l.length) (o : Bool) :
    (stepL k l).take (dwn (rowL k l) i o) = (if o = true then (l.filter fun x => bitB x k == false) else []) ++ ((l.take i).filter fun x => bitB x k == o) := by
  rw [dwn_eq k l i h]
  unfold stepL
  cases o with
  | false =>
    rw [if_neg (by simp), if_neg (by simp), Nat.zero_add, List.take_append_of_le_length (filter_le _ _ _), filter_front]; rfl
  | true =>
    rw [if_pos rfl, if_pos rfl, List.take_length_add_append, filter_front]
theorem dwn_le (k : Nat) (l : List Nat) (i : Nat) (h : i ≤ l.length) (o : Bool) : dwn (rowL k l) i o ≤ l.length := by
  rw [dwn_eq k l i h]
  have h1 := (stepL_perm k l).length_eq
  unfold stepL at h1
  rw [List.length_append] at h1
  have h2 := filter_le l (fun x => bitB x k == o) i
  cases o <;> simp only [if_true, Bool.false_eq_true, if_false] <;> omega
theorem dwn_mono (k : Nat) (l : List Nat) (a b : Nat) (h : a ≤ b) (hb : b ≤ l.length) (o : Bool) : dwn (rowL k l) a o ≤ dwn (rowL k l) b o := by
  rw [dwn_eq k l a (by omega), dwn_eq k l b hb]
  have h2 := filter_le (l.take b) (fun x => bitB x k == o) a
  rw [List.take_take, Nat.min_eq_left h] at h2
  omega
/-- A range comes to what of it has that bit. -/
theorem dwn_sg (k : Nat) (l : List Nat) (a b : Nat) (h : a ≤ b) (hb : b ≤ l.length) (o : Bool) :
    sg (stepL k l) (dwn (rowL k l) a o) (dwn (rowL k l) b o) = (sg l a b).filter fun x => bitB x k == o := by
  have e : ∀ i, i ≤ l.length → dwn (rowL k l) i o = ((if o = true then (l.filter fun x => bitB x k == false) else []) ++ ((l.take i).filter fun x => bitB x k == o)).length := by
    intro i hi
    rw [dwn_eq k l i hi, List.length_append]
    cases o <;> simp
  conv => lhs; unfold sg
  rw [dwn_take k l b hb, e a (by omega), sg_split l a b h, List.filter_append, ← List.append_assoc, List.drop_left']
  rfl
theorem dwn_at (k : Nat) (l : List Nat) (i : Nat) (h : i < l.length) : dwn (rowL k l) i (bitB l[i] k) < l.length ∧ ∀ h2 : dwn (rowL k l) i (bitB l[i] k) < (stepL k l).length, (stepL k l)[dwn (rowL k l) i (bitB l[i] k)] = l[i] := by
  have h1 := dwn_sg k l i (i + 1) (by omega) (by omega) (bitB l[i] k)
  rw [sg_one l i h] at h1
  simp only [List.filter_cons, beq_self_eq_true, if_true, List.filter_nil] at h1
  have h2 := congrArg List.length h1
  have h3 := dwn_le k l (i + 1) (by omega) (bitB l[i] k)
  rw [sg_length _ _ _ (by rw [stepL_length]; exact h3)] at h2
  simp only [List.length_cons, List.length_nil] at h2
  refine ⟨by omega, fun hlt => ?_⟩
  have h4 : dwn (rowL k l) (i + 1) (bitB l[i] k) = dwn (rowL k l) i (bitB l[i] k) + 1 := by omega
  rw [h4, sg_one _ _ hlt] at h1
  simpa using h1

/-- How many of a list are below a number. -/
def cntBelow (S : List Nat) (x : Nat) : Nat := S.countP fun y => decide (y < x)
/-- Those that have the same upper bits. -/
def same (k x : Nat) (S : List Nat) : List Nat := S.filter fun y => y / 2 ^ k == x / 2 ^ k
theorem same_step (k x : Nat) (S : List Nat) : (same (k + 1) x S).filter (fun y => bitB y k == bitB x k) = same k x S := by
  unfold same
  rw [List.filter_filter]
  apply List.filter_congr
  intro y _
  have h1 := div_step y k
  have h2 := div_step x k
  rw [h1, h2]
  generalize y / 2 ^ (k + 1) = u
  generalize x / 2 ^ (k + 1) = v
  rw [Bool.eq_iff_iff]
  cases bitB y k <;> cases bitB x k <;> simp <;> omega
/-- How many have smaller upper bits. -/
def lessK (k x : Nat) (S : List Nat) : Nat := S.countP fun y => decide (y / 2 ^ k < x / 2 ^ k)
theorem lessK_step (k x : Nat) (S : List Nat) : lessK k x S = lessK (k + 1) x S + (if bitB x k = true then ((same (k + 1) x S).filter fun y => bitB y k == false).length else 0) := by
  unfold lessK same
  rw [List.filter_filter]
  induction S with
  | nil => simp
  | cons y S ih =>
    rw [List.countP_cons, List.countP_cons, ih, List.filter_cons]
    have h1 := div_step y k
    have h2 := div_step x k
    rw [h1, h2]
    generalize y / 2 ^ (k + 1) = u
    generalize x / 2 ^ (k + 1) = v
    cases hy : bitB y k <;> cases hx : bitB x k
    · simp only [hy, Bool.false_eq_true, if_false, Nat.add_zero, decide_eq_true_eq]
      split <;> split <;> omega
    · simp only [hy, Bool.false_eq_true, if_false, if_true, Nat.add_zero, decide_eq_true_eq, beq_self_eq_true, Bool.true_and, beq_iff_eq]
      by_cases huv : u = v
      · subst huv
        rw [if_pos (by omega), if_neg (by omega), if_pos rfl, List.length_cons]; omega
      · rw [if_neg huv]
        split <;> split <;> omega
    · simp only [hy, Bool.false_eq_true, if_false, if_true, Nat.add_zero, decide_eq_true_eq]
      split <;> split <;> omega
    · simp only [hy, Bool.false_eq_true, if_false, if_true, Nat.add_zero, decide_eq_true_eq]
      have : (true == false) = false := rfl
      simp only [this, Bool.false_and, Bool.false_eq_true, if_false]
      split <;> split <;> omega
theorem same_all (K x : Nat) (S : List Nat) (h : ∀ y ∈ S, y < 2 ^ K) (hx : x < 2 ^ K) : same K x S = S := by
  unfold same
  rw [List.filter_eq_self]
  intro y hy
  rw [Nat.div_eq_of_lt (h y hy), Nat.div_eq_of_lt hx]; rfl
theorem lessK_all (K x : Nat) (S : List Nat) (hx : x < 2 ^ K) : lessK K x S = 0 := by
  unfold lessK
  rw [List.countP_eq_zero]
  intro y _
  rw [Nat.div_eq_of_lt hx]; simp
theorem lessK_none (x : Nat) (S : List Nat) : lessK 0 x S = cntBelow S x := by
  unfold lessK cntBelow
  simp
theorem same_none (x : Nat) (S : List Nat) : same 0 x S = S.filter (· == x) := by
  unfold same
  simp
theorem below_all (K x : Nat) (S : List Nat) (h : ∀ y ∈ S, y < 2 ^ K) (hx : 2 ^ K ≤ x) : cntBelow S x = S.length := by
  unfold cntBelow
  rw [List.countP_eq_length]
  intro y hy
  have := h y hy
  simp; omega
theorem below_zero (S : List Nat) : cntBelow S 0 = 0 := by
  unfold cntBelow
  rw [List.countP_eq_zero]
  intro y _; simp
theorem below_le (S : List Nat) (x : Nat) : cntBelow S x ≤ S.length := List.countP_le_length
theorem below_append (S T : List Nat) (x : Nat) : cntBelow (S ++ T) x = cntBelow S x + cntBelow T x := List.countP_append
theorem below_mono (S : List Nat) (x y : Nat) (h : x ≤ y) : cntBelow S x ≤ cntBelow S y := by
  unfold cntBelow
  apply List.countP_mono_left
  intro z _ hz
  simp only [decide_eq_true_eq] at hz ⊢
  omega
theorem below_succ (S : List Nat) (x : Nat) : cntBelow S (x + 1) = cntBelow S x + (S.filter (· == x)).length := by
  unfold cntBelow
  induction S with
  | nil => rfl
  | cons y S ih =>
    rw [List.countP_cons, List.countP_cons, ih, List.filter_cons]
    by_cases h : y = x
    · subst h
      simp; omega
    · have : (y == x) = false := by simpa using h
      rw [this]
      simp only [decide_eq_true_eq, Bool.false_eq_true, if_false]
      split <;> split <;> omega
/-- The number at place k of the sorted list. -/
def IsKth (S : List Nat) (k n : Nat) : Prop := cntBelow S n ≤ k ∧ k < cntBelow S (n + 1)
theorem IsKth.mem {S : List Nat} {k n : Nat} (h : IsKth S k n) : n ∈ S := by
  obtain ⟨h1, h2⟩ := h
  rw [below_succ] at h2
  have : 0 < (S.filter (· == n)).length := by omega
  obtain ⟨y, hy⟩ := List.exists_mem_of_length_pos this
  have h3 := List.mem_filter.1 hy
  have h4 : y = n := by simpa using h3.2
  exact h4 ▸ h3.1
theorem IsKth.uniq {S : List Nat} {k n m : Nat} (h : IsKth S k n) (g : IsKth S k m) : n = m := by
  obtain ⟨h1, h2⟩ := h
  obtain ⟨g1, g2⟩ := g
  rcases Nat.lt_trichotomy n m with e | e | e
  · have := below_mono S (n + 1) m (by omega); omega
  · exact e
  · have := below_mono S (m + 1) n (by omega); omega
theorem IsKth.mono {S : List Nat} {k k' n m : Nat} (h : IsKth S k n) (g : IsKth S k' m) (hk : k ≤ k') : n ≤ m := by
  rcases Nat.lt_or_ge m n with e | e
  · have := below_mono S (m + 1) n (by omega)
    have h1 := h.1
    have g2 := g.2
    omega
  · exact e
theorem below_perm {S T : List Nat} (h : S.Perm T) (x : Nat) : cntBelow S x = cntBelow T x := h.countP_eq _
theorem IsKth.perm {S T : List Nat} {k n : Nat} (h : IsKth S k n) (hp : S.Perm T) : IsKth T k n := by
  unfold IsKth at *
  rwa [← below_perm hp, ← below_perm hp]
/-- In a sorted list the kth is the one at that place. -/
theorem sorted_kth {P : List Nat} (h : P.Pairwise (· ≤ ·)) (k : Nat) (hk : k < P.length) : IsKth P k P[k] := by
  have e : P = P.take k ++ P.drop k := (List.take_append_drop k P).symm
  have hd : P.drop k = P[k] :: P.drop (k + 1) := List.drop_eq_getElem_cons hk
  generalize P[k] = x at *
  rw [e, List.pairwise_append] at h
  obtain ⟨_, h2, h3⟩ := h
  rw [hd] at h2
  have h4 := (List.pairwise_cons.1 h2).1
  constructor
  · rw [e, below_append]
    have : cntBelow (P.drop k) x = 0 := by
      unfold cntBelow
      rw [List.countP_eq_zero]
      intro y hy
      rw [hd] at hy
      rcases List.mem_cons.1 hy with rfl | hy
      · simp
      · have := h4 y hy; simp; omega
    rw [this]
    have := below_le (P.take k) x
    rw [List.length_take] at this
    omega
  · rw [e, below_append]
    have h5 : cntBelow (P.take k) (x + 1) = (P.take k).length := by
      unfold cntBelow
      rw [List.countP_eq_length]
      intro y hy
      have := h3 y hy x (by rw [hd]; exact List.mem_cons_self ..)
      simp; omega
    have h6 : 0 < cntBelow (P.drop k) (x + 1) := by
      rw [hd]
      unfold cntBelow
      rw [List.countP_cons]; simp
    rw [h5, List.length_take]
    omega
theorem kth_exists (S : List Nat) : ∃ P : List Nat, P.Perm S ∧ P.Pairwise (· ≤ ·) := by
  refine ⟨S.mergeSort (fun a b => decide (a ≤ b)), List.mergeSort_perm _ _, ?_⟩
  have := List.pairwise_mergeSort (le := fun a b : Nat => decide (a ≤ b)) (by intro a b c h1 h2; simp at *; omega) (by intro a b; simp; omega) S
  exact this.imp (by intro a b h; simpa using h)
/-- One step down by the kth. -/
theorem kth_step (k p r : Nat) (S : List Nat) (h1 : lessK (k + 1) (p * 2 ^ (k + 1)) S ≤ r) (h2 : r < lessK (k + 1) (p * 2 ^ (k + 1)) S + (same (k + 1) (p * 2 ^ (k + 1)) S).length) :
    let z := ((same (k + 1) (p * 2 ^ (k + 1)) S).filter fun y => bitB y k == false).length
    let one := decide (z ≤ r - lessK (k + 1) (p * 2 ^ (k + 1)) S)
    let q := 2 * p + (if one = true then 1 else 0)
    lessK k (q * 2 ^ k) S = lessK (k + 1) (p * 2 ^ (k + 1)) S + (if one = true then z else 0) ∧ lessK k (q * 2 ^ k) S ≤ r ∧ r < lessK k (q * 2 ^ k) S + (same k (q * 2 ^ k) S).length ∧
      (same (k + 1) (p * 2 ^ (k + 1)) S).filter (fun y => bitB y k == one) = same k (q * 2 ^ k) S := by
  intro z one q
  have hq1 : q * 2 ^ k / 2 ^ k = q := Nat.mul_div_cancel _ (Nat.pow_pos (by omega))
  have hb : bitB (q * 2 ^ k) k = one := by
    have : bitB (q * 2 ^ k) k = (q * 2 ^ k / 2 ^ k % 2 == 1) := by unfold bitB; rfl
    rw [this, hq1]
    show ((2 * p + if one = true then 1 else 0) % 2 == 1) = one
    cases one <;> simp
  have hp2 : q * 2 ^ k / 2 ^ (k + 1) = p := by
    rw [Nat.pow_succ, ← Nat.div_div_eq_div_mul, hq1]
    show (2 * p + if one = true then 1 else 0) / 2 = p
    cases one <;> simp <;> omega
  have hp3 : p * 2 ^ (k + 1) / 2 ^ (k + 1) = p := Nat.mul_div_cancel _ (Nat.pow_pos (by omega))
  have e1 : lessK (k + 1) (q * 2 ^ k) S = lessK (k + 1) (p * 2 ^ (k + 1)) S := by unfold lessK; rw [hp2, hp3]
  have e2 : same (k + 1) (q * 2 ^ k) S = same (k + 1) (p * 2 ^ (k + 1)) S := by unfold same; rw [hp2, hp3]
  have h3 := lessK_step k (q * 2 ^ k) S
  have h4 := same_step k (q * 2 ^ k) S
  rw [e1, e2, hb] at h3
  rw [e2, hb] at h4
  refine ⟨h3, ?_, ?_, h4⟩
  · rw [h3]
    show _ + (if one = true then z else 0) ≤ r
    by_cases ho : one = true
    · rw [if_pos ho]
      have : z ≤ r - lessK (k + 1) (p * 2 ^ (k + 1)) S := of_decide_eq_true ho
      omega
    · rw [if_neg ho]; omega
  · rw [h3, ← h4]
    show r < _ + (if one = true then z else 0) + _
    have hz : z + ((same (k + 1) (p * 2 ^ (k + 1)) S).filter fun y => bitB y k == true).length = (same (k + 1) (p * 2 ^ (k + 1)) S).length := by
      have := (stepL_perm k (same (k + 1) (p * 2 ^ (k + 1)) S)).length_eq
      unfold stepL at this
      rw [List.length_append] at this
      exact this
    by_cases ho : one = true
    · rw [if_pos ho, ho]; omega
    · have ho' : one = false := by simpa using ho
      have : ¬ z ≤ r - lessK (k + 1) (p * 2 ^ (k + 1)) S := of_decide_eq_false ho'
      rw [if_neg ho, ho']
      show r < _ + 0 + z
      omega
theorem kth_done (n r : Nat) (S : List Nat) (h1 : lessK 0 n S ≤ r) (h2 : r < lessK 0 n S + (same 0 n S).length) : IsKth S r n := by
  rw [lessK_none] at h1 h2
  rw [same_none] at h2
  exact ⟨h1, by rw [below_succ]; exact h2⟩
attribute [irreducible] dwn lst rowAt stepL rowL sg cntBelow same lessK
end Go.Proofs.YteeeikninigeoaaGreatDoor

/- Plain facts on points in a rectangle, counted along an order by x. -/
namespace Go.Proofs.YteeeikninigeoaaGreatDoor
set_option linter.unusedVariables false
open Go.RowKit

/-- A point stands in a rectangle. -/
def inR (X0 Y0 X1 Y1 : Int) (p : Pt) : Bool := decide (X0 ≤ p.x ∧ p.x ≤ X1 ∧ Y0 ≤ p.y ∧ p.y ≤ Y1)
/-- How many points stand in a rectangle. -/
def cntR (L : List Pt) (X0 Y0 X1 Y1 : Int) : Nat := L.countP (inR X0 Y0 X1 Y1)

/-- Of a list with rising x what stands from a to b is what has an x between. -/
theorem range_cnt (S : List Pt) (X0 X1 : Int) (a b : Nat) (hs : ∀ i j (h : i < j) (hj : j < S.length), (S[i]'(by omega)).x ≤ S[j].x) (ha : a ≤ S.length) (hb : b ≤ S.length)
    (a1 : ∀ i (h : i < S.length), i < a → S[i].x < X0) (a2 : ∀ h : a < S.length, X0 ≤ S[a].x)
    (b1 : ∀ i (h : i < S.length), i < b → S[i].x ≤ X1) (b2 : ∀ h : b < S.length, X1 < S[b].x) (q : Pt → Bool) :
    ((S.take (max a b)).drop a).countP q = S.countP (fun p => decide (X0 ≤ p.x ∧ p.x ≤ X1) && q p) := by
  have e1 : S = S.take a ++ ((S.take (max a b)).drop a ++ S.drop (max a b)) := by
    have h1 := List.take_append_drop (max a b) S
    have h2 := List.take_append_drop a (S.take (max a b))
    rw [List.take_take, Nat.min_eq_left (Nat.le_max_left a b)] at h2
    rw [← List.append_assoc, h2, h1]
  have f1 : (S.take a).countP (fun p => decide (X0 ≤ p.x ∧ p.x ≤ X1) && q p) = 0 := by
    rw [List.countP_eq_zero]
    intro p hp
    obtain ⟨i, hi, rfl⟩ := List.getElem_of_mem hp
    rw [List.length_take] at hi
    have := a1 i (by omega) (by omega)
    rw [List.getElem_take]
    have h3 : ¬ X0 ≤ S[i].x := by omega
    simp [h3]
  have f3 : (S.drop (max a b)).countP (fun p => decide (X0 ≤ p.x ∧ p.x ≤ X1) && q p) = 0 := by
    rw [List.countP_eq_zero]
    intro p hp
    obtain ⟨i, hi, rfl⟩ := List.getElem_of_mem hp
    rw [List.length_drop] at hi
    rw [List.getElem_drop]
    have h4 : b < S.length := by omega
    have h5 := b2 h4
    have h6 : S[b].x ≤ (S[max a b + i]'(by omega)).x := by
      rcases Nat.eq_or_lt_of_le (show b ≤ max a b + i by omega) with e | e
      · simp only [← e]; exact Int.le_refl _
      · exact hs b (max a b + i) e (by omega)
    have h3 : ¬ (S[max a b + i]'(by omega)).x ≤ X1 := by omega
    simp [h3]
  have f2 : ((S.take (max a b)).drop a).countP (fun p => decide (X0 ≤ p.x ∧ p.x ≤ X1) && q p) = ((S.take (max a b)).drop a).countP q := by
    apply List.countP_congr
    intro p hp
    obtain ⟨i, hi, rfl⟩ := List.getElem_of_mem hp
    rw [List.length_drop, List.length_take] at hi
    rw [List.getElem_drop, List.getElem_take]
    have h4 : a + i < b := by omega
    have h5 := b1 (a + i) (by omega) h4
    have h6 := a2 (by omega)
    have h7 : S[a].x ≤ S[a + i].x := by
      rcases Nat.eq_or_lt_of_le (show a ≤ a + i by omega) with e | e
      · simp only [← e]; exact Int.le_refl _
      · exact hs a (a + i) e (by omega)
    have h8 : X0 ≤ S[a + i].x := by omega
    simp [h5, h8]
  conv => rhs; rw [e1]
  rw [List.countP_append, List.countP_append, f1, f2, f3]
  omega

/-- What is at most Y1, less what is below Y0. -/
theorem two_cnt (M : List Pt) (Y0 Y1 : Int) : max 0 (((M.countP fun p => decide (p.y ≤ Y1) : Nat) : Int) - ((M.countP fun p => decide (p.y < Y0) : Nat) : Int)) = ((M.countP fun p => decide (Y0 ≤ p.y ∧ p.y ≤ Y1) : Nat) : Int) := by
  by_cases h : Y0 ≤ Y1
  · have : M.countP (fun p => decide (p.y ≤ Y1)) = M.countP (fun p => decide (p.y < Y0)) + M.countP (fun p => decide (Y0 ≤ p.y ∧ p.y ≤ Y1)) := by
      induction M with
      | nil => rfl
      | cons p M ih =>
        simp only [List.countP_cons, decide_eq_true_eq]
        split <;> split <;> split <;> omega
    omega
  · have : M.countP (fun p => decide (p.y ≤ Y1)) ≤ M.countP (fun p => decide (p.y < Y0)) ∧ M.countP (fun p => decide (Y0 ≤ p.y ∧ p.y ≤ Y1)) = 0 := by
      induction M with
      | nil => exact ⟨Nat.le_refl _, rfl⟩
      | cons p M ih =>
        simp only [List.countP_cons, decide_eq_true_eq]
        split <;> split <;> split <;> omega
    omega

/-- Ranks below a number's place count numbers below it. -/
theorem rank_cnt (q : Int → Bool) (V : List Int) (hV : Up V) (k : Nat) (k1 : ∀ i, i < k → i < V.length → q (V.getD i 0) = true) (k2 : ∀ i, k ≤ i → i < V.length → q (V.getD i 0) = false) (ys : List Int) (R : List Nat) (hl : R.length = ys.length)
    (hr : ∀ i, i < ys.length → R.getD i 0 < V.length ∧ V.getD (R.getD i 0) 0 = ys.getD i 0) :
    R.countP (fun r => decide (r < k)) = ys.countP q := by
  induction ys generalizing R with
  | nil =>
    have : R = [] := List.length_eq_zero_iff.1 (by simpa using hl)
    subst this; rfl
  | cons y ys ih =>
    cases R with
    | nil => simp at hl
    | cons r R =>
      have h0 := hr 0 (by simp)
      simp only [List.getD_cons_zero] at h0
      have h1 := ih R (by simpa using hl) (fun i hi => by
        have := hr (i + 1) (by simp; omega)
        simpa using this)
      rw [List.countP_cons, List.countP_cons, h1]
      congr 1
      rw [← h0.2]
      by_cases h : r < k
      · rw [k1 r h h0.1]; simp [h]
      · rw [k2 r (by omega) h0.1]; simp [h]

theorem sg_map {S : List Pt} (f : Pt → Int) (a b : Nat) (q : Int → Bool) : (((S.map f).take b).drop a).countP q = ((S.take b).drop a).countP (fun p => q (f p)) := by
  rw [← List.map_take, ← List.map_drop, List.countP_map]; rfl

end Go.Proofs.YteeeikninigeoaaGreatDoor


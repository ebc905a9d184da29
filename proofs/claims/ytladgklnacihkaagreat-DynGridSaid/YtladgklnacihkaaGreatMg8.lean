import Derived.Test.YtladgklnacihkaaGreatMg7
import Derived.Test.YtladgklnacihkaaGreatMg4
import Derived.Test.YtladgklnacihkaaGreatMg6
import Derived.Test.YtladgklnacihkaaGreatMg0
import Derived.RangeFuncNested
import Derived.RangeFuncBound
import Derived.RangeFuncLeaves
import Derived.RangeFuncBox
import Derived.OwnWalkIn
import Derived.TacticsInMore
import Derived.LoopNIn
import Derived.LoopIn
/- Plain facts on waves: a list turned level by level, ranges of it, and what is counted in them. -/
namespace Go.Proofs.YtladgklnacihkaaGreat
set_option linter.unusedVariables false

theorem div_step (y k : Nat) : y / 2 ^ k = 2 * (y / 2 ^ (k + 1)) + (if bitB y k = true then 1 else 0) := by
  have h1 : y / 2 ^ (k + 1) = y / 2 ^ k / 2 := by rw [Nat.pow_succ, Nat.div_div_eq_div_mul]
  have h2 : bitB y k = (y / 2 ^ k % 2 == 1) := by unfold bitB; rfl
  rw [h1, h2]
  generalize y / 2 ^ k = z
  have : z % 2 = 0 ∨ z % 2 = 1 := by omega
  rcases this with h | h <;> simp [h] <;> omega

def stepL (k : Nat) (l : List Nat) : List Nat := l.filter (fun x => bitB x k == false) ++ l.filter (fun x => bitB x k == true)
def rowL (k : Nat) (l : List Nat) : List Bool := l.map fun x => bitB x k
theorem rowL_length (k : Nat) (l : List Nat) : (rowL k l).length = l.length := by simp [rowL]
theorem stepL_perm (k : Nat) (l : List Nat) : (stepL k l).Perm l := by
  unfold stepL
  have := List.filter_append_perm (fun x => bitB x k == false) l
  have e : (fun x => bitB x k == true) = fun x => !(bitB x k == false) := by funext x; cases bitB x k <;> rfl
  rw [e]; exact this
theorem stepL_length (k : Nat) (l : List Nat) : (stepL k l).length = l.length := (stepL_perm k l).length_eq
/-- The list behind j of K levels. -/
def lst (K : Nat) (l : List Nat) : Nat → List Nat
  | 0 => l
  | j + 1 => stepL (K - 1 - j) (lst K l j)
theorem lst_zero (K : Nat) (l : List Nat) : lst K l 0 = l := rfl
theorem lst_succ (K : Nat) (l : List Nat) (j : Nat) : lst K l (j + 1) = stepL (K - 1 - j) (lst K l j) := rfl
theorem lst_length (K : Nat) (l : List Nat) (j : Nat) : (lst K l j).length = l.length := by
  induction j with
  | zero => rfl
  | succ j ih => rw [lst_succ, stepL_length, ih]
/-- The rows of a wave of K levels. -/
def rowAt (K : Nat) (l : List Nat) (j : Nat) : List Bool := rowL (K - 1 - j) (lst K l j)
theorem rowAt_length (K : Nat) (l : List Nat) (j : Nat) : (rowAt K l j).length = l.length := by rw [rowAt, rowL_length, lst_length]

/-- Where a place comes to. -/
def dwn (E : List Bool) (i : Nat) (one : Bool) : Nat := if one = true then E.length - cntB E E.length + cntB E i else i - cntB E i
/-- A range of a list. -/
def sg (l : List Nat) (a b : Nat) : List Nat := (l.take b).drop a
theorem sg_length (l : List Nat) (a b : Nat) (h : b ≤ l.length) : (sg l a b).length = b - a := by
  simp [sg]; omega
theorem sg_split (l : List Nat) (a b : Nat) (h : a ≤ b) : l.take b = l.take a ++ sg l a b := by
  have h1 := List.take_append_drop a (l.take b)
  rw [List.take_take, Nat.min_eq_left h] at h1
  exact h1.symm
theorem sg_join (l : List Nat) (a m b : Nat) (h1 : a ≤ m) (h2 : m ≤ b) (h3 : b ≤ l.length) : sg l a b = sg l a m ++ sg l m b := by
  have h := sg_split l m b h2
  unfold sg at *
  rw [h, List.drop_append_of_le_length (by simp; omega)]
  congr 1
  rw [← h]
theorem sg_one (l : List Nat) (i : Nat) (h : i < l.length) : sg l i (i + 1) = [l[i]] := by
  unfold sg
  rw [List.take_succ_eq_append_getElem h, List.drop_append_of_le_length (by simp; omega), List.drop_eq_nil_of_le (by simp; omega)]; rfl

theorem filter_le (l : List Nat) (p : Nat → Bool) (i : Nat) : ((l.take i).filter p).length ≤ (l.filter p).length := by
  have h : l.filter p = (l.take i).filter p ++ (l.drop i).filter p := by rw [← List.filter_append, List.take_append_drop]
  rw [h, List.length_append]; omega
theorem filter_front (l : List Nat) (p : Nat → Bool) (i : Nat) : (l.filter p).take ((l.take i).filter p).length = (l.take i).filter p := by
  have h : l.filter p = (l.take i).filter p ++ (l.drop i).filter p := by rw [← List.filter_append, List.take_append_drop]
  rw [h, List.take_left']
  rfl
theorem cnt_row (k : Nat) (l : List Nat) (i : Nat) : cntB (rowL k l) i = ((l.take i).filter fun x => bitB x k == true).length := by
  unfold cntB rowL
  rw [← List.map_take]
  generalize l.take i = m
  induction m with
  | nil => rfl
  | cons x m ih =>
    rw [List.map_cons, List.count_cons, ih, List.filter_cons]
    cases bitB x k <;> simp
theorem cnt_zeros (k : Nat) (l : List Nat) (i : Nat) (h : i ≤ l.length) : i - cntB (rowL k l) i = ((l.take i).filter fun x => bitB x k == false).length := by
  rw [cnt_row]
  have h1 := (stepL_perm k (l.take i)).length_eq
  unfold stepL at h1
  rw [List.length_append, List.length_take, Nat.min_eq_left h] at h1
  omega
theorem dwn_eq (k : Nat) (l : List Nat) (i : Nat) (h : i ≤ l.length) (o : Bool) :
    dwn (rowL k l) i o = (if o = true then (l.filter fun x => bitB x k == false).length else 0) + ((l.take i).filter fun x => bitB x k == o).length := by
  unfold dwn
  cases o with
  | false => rw [if_neg (by simp), if_neg (by simp), cnt_zeros k l i h, Nat.zero_add]
  | true =>
    rw [if_pos rfl, if_pos rfl]
    have := cnt_zeros k l l.length (Nat.le_refl _)
    rw [List.take_length] at this
    rw [rowL_length, this, cnt_row]
theorem dwn_take (k : Nat) (l : List Nat) (i : Nat) (h : i ≤ l.length) (o : Bool) :
    (stepL k l).take (dwn (rowL k l) i o) = (if o = true then (l.filter fun x => bitB x k == false) else []) ++ ((l.take i).filter fun x => bitB x k == o) := by
  rw [dwn_eq k l i h]
  unfold stepL
  cases o with
  | false =>
    rw [if_neg (by simp), if_neg (by simp), Nat.zero_add, List.take_append_of_le_length (filter_le _ _ _), filter_front]; rfl
  | true =>
    rw [if_pos rfl, if_pos rfl, List.take_length_add_append, filter_front]
theorem dwn_le (k : Nat) (l : List Nat) (i : Nat) (h : i ≤ l.length) (o : Bool) : dwn (rowL k l) i o ≤ l.length := by
  rw [dwn_eq k l i h]
  have h1 := (stepL_perm k l).length_eq
  unfold stepL at h1
  rw [List.length_append] at h1
  have h2 := filter_le l (fun x => bitB x k == o) i
  cases o <;> simp only [if_true, Bool.false_eq_true, if_false] <;> omega
theorem dwn_mono (k : Nat) (l : List Nat) (a b : Nat) (h : a ≤ b) (hb : b ≤ l.length) (o : Bool) : dwn (rowL k l) a o ≤ dwn (rowL k l) b o := by
  rw [dwn_eq k l a (by omega), dwn_eq k l b hb]
  have h2 := filter_le (l.take b) (fun x => bitB x k == o) a
  rw [List.take_take, Nat.min_eq_left h] at h2
  omega
/-- A range comes to what of it has that bit. -/
theorem dwn_sg (k : Nat) (l : List Nat) (a b : Nat) (h : a ≤ b) (hb : b ≤ l.length) (o : Bool) :
    sg (stepL k l) (dwn (rowL k l) a o) (dwn (rowL k l) b o) = (sg l a b).filter fun x => bitB x k == o := by
  have e : ∀ i, i ≤ l.length → dwn (rowL k l) i o = ((if o = true then (l.filter fun x => bitB x k == false) else []) ++ ((l.take i).filter fun x => bitB x k == o)).length := by
    intro i hi
    rw [dwn_eq k l i hi, List.length_append]
    cases o <;> simp
  conv => lhs; unfold sg
  rw [dwn_take k l b hb, e a (by omega), sg_split l a b h, List.filter_append, ← List.append_assoc, List.drop_left']
  rfl
theorem dwn_at (k : Nat) (l : List Nat) (i : Nat) (h : i < l.length) : dwn (rowL k l) i (bitB l[i] k) < l.length ∧ ∀ h2 : dwn (rowL k l) i (bitB l[i] k) < (stepL k l).length, (stepL k l)[dwn (rowL k l) i (bitB l[i] k)] = l[i] := by
  have h1 := dwn_sg k l i (i + 1) (by omega) (by omega) (bitB l[i] k)
  rw [sg_one l i h] at h1
  simp only [List.filter_cons, beq_self_eq_true, if_true, List.filter_nil] at h1
  have h2 := congrArg List.length h1
  have h3 := dwn_le k l (i + 1) (by omega) (bitB l[i] k)
  rw [sg_length _ _ _ (by rw [stepL_length]; exact h3)] at h2
  simp only [List.length_cons, List.length_nil] at h2
  refine ⟨by omega, fun hlt => ?_⟩
  have h4 : dwn (rowL k l) (i + 1) (bitB l[i] k) = dwn (rowL k l) i (bitB l[i] k) + 1 := by omega
  rw [h4, sg_one _ _ hlt] at h1
  simpa using h1

/-- How many of a list are below a number. -/
def cntBelow (S : List Nat) (x : Nat) : Nat := S.countP fun y => decide (y < x)
/-- Those that have the same upper bits. -/
def same (k x : Nat) (S : List Nat) : List Nat := S.filter fun y => y / 2 ^ k == x / 2 ^ k
theorem same_step (k x : Nat) (S : List Nat) : (same (k + 1) x S).filter (fun y => bitB y k == bitB x k) = same k x S := by
  unfold same
  rw [List.filter_filter]
  apply List.filter_congr
  intro y _
  have h1 := div_step y k
  have h2 := div_step x k
  rw [h1, h2]
  generalize y / 2 ^ (k + 1) = u
  generalize x / 2 ^ (k + 1) = v
  rw [Bool.eq_iff_iff]
  cases bitB y k <;> cases bitB x k <;> simp <;> omega
/-- How many have smaller upper bits. -/
def lessK (k x : Nat) (S : List Nat) : Nat := S.countP fun y => decide (y / 2 ^ k < x / 2 ^ k)
theorem lessK_step (k x : Nat) (S : List Nat) : lessK k x S = lessK (k + 1) x S + (if bitB x k = true then ((same (k + 1) x S).filter fun y => bitB y k == false).length else 0) := by
  unfold lessK same
  rw [List.filter_filter]
  induction S with
  | nil => simp
  | cons y S ih =>
    rw [List.countP_cons, List.countP_cons, ih, List.filter_cons]
    have h1 := div_step y k
    have h2 := div_step x k
    rw [h1, h2]
    generalize y / 2 ^ (k + 1) = u
    generalize x / 2 ^ (k + 1) = v
    cases hy : bitB y k <;> cases hx : bitB x k
    · simp only [hy, Bool.false_eq_true, if_false, Nat.add_zero, decide_eq_true_eq]
      split <;> split <;> omega
    · simp only [hy, Bool.false_eq_true, if_false, if_true, Nat.add_zero, decide_eq_true_eq, beq_self_eq_true, Bool.true_and, beq_iff_eq]
      by_cases huv : u = v
      · subst huv
        rw [if_pos (by omega), if_neg (by omega), if_pos rfl, List.length_cons]; omega
      · rw [if_neg huv]
        split <;> split <;> omega
    · simp only [hy, Bool.false_eq_true, if_false, if_true, Nat.add_zero, decide_eq_true_eq]
      split <;> split <;> omega
    · simp only [hy, Bool.false_eq_true, if_false, if_true, Nat.add_zero, decide_eq_true_eq]
      have : (true == false) = false := rfl
      simp only [this, Bool.false_and, Bool.false_eq_true, if_false]
      split <;> split <;> omega
theorem same_all (K x : Nat) (S : List Nat) (h : ∀ y ∈ S, y < 2 ^ K) (hx : x < 2 ^ K) : same K x S = S := by
  unfold same
  rw [List.filter_eq_self]
  intro y hy
  rw [Nat.div_eq_of_lt (h y hy), Nat.div_eq_of_lt hx]; rfl
theorem lessK_all (K x : Nat) (S : List Nat) (hx : x < 2 ^ K) : lessK K x S = 0 := by
  unfold lessK
  rw [List.countP_eq_zero]
  intro y _
  rw [Nat.div_eq_of_lt hx]; simp
theorem lessK_none (x : Nat) (S : List Nat) : lessK 0 x S = cntBelow S x := by
  unfold lessK cntBelow
  simp
theorem same_none (x : Nat) (S : List Nat) : same 0 x S = S.filter (· == x) := by
  unfold same
  simp
theorem below_all (K x : Nat) (S : List Nat) (h : ∀ y ∈ S, y < 2 ^ K) (hx : 2 ^ K ≤ x) : cntBelow S x = S.length := by
  unfold cntBelow
  rw [List.countP_eq_length]
  intro y hy
  have := h y hy
  simp; omega
theorem below_zero (S : List Nat) : cntBelow S 0 = 0 := by
  unfold cntBelow
  rw [List.countP_eq_zero]
  intro y _; simp
theorem below_le (S : List Nat) (x : Nat) : cntBelow S x ≤ S.length := List.countP_le_length
theorem below_append (S T : List Nat) (x : Nat) : cntBelow (S ++ T) x = cntBelow S x + cntBelow T x := List.countP_append
theorem below_mono (S : List Nat) (x y : Nat) (h : x ≤ y) : cntBelow S x ≤ cntBelow S y := by
  unfold cntBelow
  apply List.countP_mono_left
  intro z _ hz
  simp only [decide_eq_true_eq] at hz ⊢
  omega
theorem below_succ (S : List Nat) (x : Nat) : cntBelow S (x + 1) = cntBelow S x + (S.filter (· == x)).length := by
  unfold cntBelow
  induction S with
  | nil => rfl
  | cons y S ih =>
    rw [List.countP_cons, List.countP_cons, ih, List.filter_cons]
    by_cases h : y = x
    · subst h
      simp; omega
    · have : (y == x) = false := by simpa using h
      rw [this]
      simp only [decide_eq_true_eq, Bool.false_eq_true, if_false]
      split <;> split <;> omega
/-- The number at place k of the sorted list. -/
def IsKth (S : List Nat) (k n : Nat) : Prop := cntBelow S n ≤ k ∧ k < cntBelow S (n + 1)
theorem IsKth.mem {S : List Nat} {k n : Nat} (h : IsKth S k n) : n ∈ S := by
  obtain ⟨h1, h2⟩ := h
  rw [below_succ] at h2
  have : 0 < (S.filter (· == n)).length := by omega
  obtain ⟨y, hy⟩ := List.exists_mem_of_length_pos this
  have h3 := List.mem_filter.1 hy
  have h4 : y = n := by simpa using h3.2
  exact h4 ▸ h3.1
theorem IsKth.uniq {S : List Nat} {k n m : Nat} (h : IsKth S k n) (g : IsKth S k m) : n = m := by
  obtain ⟨h1, h2⟩ := h
  obtain ⟨g1, g2⟩ := g
  rcases Nat.lt_trichotomy n m with e | e | e
  · have := below_mono S (n + 1) m (by omega); omega
  · exact e
  · have := below_mono S (m + 1) n (by omega); omega
theorem IsKth.mono {S : List Nat} {k k' n m : Nat} (h : IsKth S k n) (g : IsKth S k' m) (hk : k ≤ k') : n ≤ m := by
  rcases Nat.lt_or_ge m n with e | e
  · have := below_mono S (m + 1) n (by omega)
    have h1 := h.1
    have g2 := g.2
    omega
  · exact e
theorem below_perm {S T : List Nat} (h : S.Perm T) (x : Nat) : cntBelow S x = cntBelow T x := h.countP_eq _
theorem IsKth.perm {S T : List Nat} {k n : Nat} (h : IsKth S k n) (hp : S.Perm T) : IsKth T k n := by
  unfold IsKth at *
  rwa [← below_perm hp, ← below_perm hp]
/-- In a sorted list the kth is the one at that place. -/
theorem sorted_kth {P : List Nat} (h : P.Pairwise (· ≤ ·)) (k : Nat) (hk : k < P.length) : IsKth P k P[k] := by
  have e : P = P.take k ++ P.drop k := (List.take_append_drop k P).symm
  have hd : P.drop k = P[k] :: P.drop (k + 1) := List.drop_eq_getElem_cons hk
  generalize P[k] = x at *
  rw [e, List.pairwise_append] at h
  obtain ⟨_, h2, h3⟩ := h
  rw [hd] at h2
  have h4 := (List.pairwise_cons.1 h2).1
  constructor
  · rw [e, below_append]
    have : cntBelow (P.drop k) x = 0 := by
      unfold cntBelow
      rw [List.countP_eq_zero]
      intro y hy
      rw [hd] at hy
      rcases List.mem_cons.1 hy with rfl | hy
      · simp
      · have := h4 y hy; simp; omega
    rw [this]
    have := below_le (P.take k) x
    rw [List.length_take] at this
    omega
  · rw [e, below_append]
    have h5 : cntBelow (P.take k) (x + 1) = (P.take k).length := by
      unfold cntBelow
      rw [List.countP_eq_length]
      intro y hy
      have := h3 y hy x (by rw [hd]; exact List.mem_cons_self ..)
      simp; omega
    have h6 : 0 < cntBelow (P.drop k) (x + 1) := by
      rw [hd]
      unfold cntBelow
      rw [List.countP_cons]; simp
    rw [h5, List.length_take]
    omega
theorem kth_exists (S : List Nat) : ∃ P : List Nat, P.Perm S ∧ P.Pairwise (· ≤ ·) := by
  refine ⟨S.mergeSort (fun a b => decide (a ≤ b)), List.mergeSort_perm _ _, ?_⟩
  have := List.pairwise_mergeSort (le := fun a b : Nat => decide (a ≤ b)) (by intro a b c h1 h2; simp at *; omega) (by intro a b; simp; omega) S
  exact this.imp (by intro a b h; simpa using h)
/-- One step down by the kth. -/
theorem kth_step (k p r : Nat) (S : List Nat) (h1 : lessK (k + 1) (p * 2 ^ (k + 1)) S ≤ r) (h2 : r < lessK (k + 1) (p * 2 ^ (k + 1)) S + (same (k + 1) (p * 2 ^ (k + 1)) S).length) :
    let z := ((same (k + 1) (p * 2 ^ (k + 1)) S).filter fun y => bitB y k == false).length
    let one := decide (z ≤ r - lessK (k + 1) (p * 2 ^ (k + 1)) S)
    let q := 2 * p + (if one = true then 1 else 0)
    lessK k (q * 2 ^ k) S = lessK (k + 1) (p * 2 ^ (k + 1)) S + (if one = true then z else 0) ∧ lessK k (q * 2 ^ k) S ≤ r ∧ r < lessK k (q * 2 ^ k) S + (same k (q * 2 ^ k) S).length ∧
      (same (k + 1) (p * 2 ^ (k + 1)) S).filter (fun y => bitB y k == one) = same k (q * 2 ^ k) S := by
  intro z one q
  have hq1 : q * 2 ^ k / 2 ^ k = q := Nat.mul_div_cancel _ (Nat.pow_pos (by omega))
  have hb : bitB (q * 2 ^ k) k = one := by
    have : bitB (q * 2 ^ k) k = (q * 2 ^ k / 2 ^ k % 2 == 1) := by unfold bitB; rfl
    rw [this, hq1]
    show ((2 * p + if one = true then 1 else 0) % 2 == 1) = one
    cases one <;> simp
  have hp2 : q * 2 ^ k / 2 ^ (k + 1) = p := by
    rw [Nat.pow_succ, ← Nat.div_div_eq_div_mul, hq1]
    show (2 * p + if one = true then 1 else 0) / 2 = p
    cases one <;> simp <;> omega
  have hp3 : p * 2 ^ (k + 1) / 2 ^ (k + 1) = p := Nat.mul_div_cancel _ (Nat.pow_pos (by omega))
  have e1 : lessK (k + 1) (q * 2 ^ k) S = lessK (k + 1) (p * 2 ^ (k + 1)) S := by unfold lessK; rw [hp2, hp3]
  have e2 : same (k + 1) (q * 2 ^ k) S = same (k + 1) (p * 2 ^ (k + 1)) S := by unfold same; rw [hp2, hp3]
  have h3 := lessK_step k (q * 2 ^ k) S
  have h4 := same_step k (q * 2 ^ k) S
  rw [e1, e2, hb] at h3
  rw [e2, hb] at h4
  refine ⟨h3, ?_, ?_, h4⟩
  · rw [h3]
    show _ + (if one = true then z else 0) ≤ r
    by_cases ho : one = true
    · rw [if_pos ho]
      have : z ≤ r - lessK (k + 1) (p * 2 ^ (k + 1)) S := of_decide_eq_true ho
      omega
    · rw [if_neg ho]; omega
  · rw [h3, ← h4]
    show r < _ + (if one = true then z else 0) + _
    have hz : z + ((same (k + 1) (p * 2 ^ (k + 1)) S).filter fun y => bitB y k == true).length = (same (k + 1) (p * 2 ^ (k + 1)) S).length := by
      have := (stepL_perm k (same (k + 1) (p * 2 ^ (k + 1)) S)).length_eq
      unfold stepL at this
      rw [List.length_append] at this
      exact this
    by_cases ho : one = true
    · rw [if_pos ho, ho]; omega
    · have ho' : one = false := by simpa using ho
      have : ¬ z ≤ r - lessK (k + 1) (p * 2 ^ (k + 1)) S := of_decide_eq_false ho'
      rw [if_neg ho, ho']
      show r < _ + 0 + z
      omega
theorem kth_done (n r : Nat) (S : List Nat) (h1 : lessK 0 n S ≤ r) (h2 : r < lessK 0 n S + (same 0 n S).length) : IsKth S r n := by
  rw [lessK_none] at h1 h2
  rw [same_none] at h2
  exact ⟨h1, by rw [below_succ]; exact h2⟩
attribute [irreducible] dwn lst rowAt stepL rowL sg cntBelow same lessK
end Go.Proofs.YtladgklnacihkaaGreat

/- Plain facts on points in a rectangle, counted along an order by x. -/
namespace Go.Proofs.YtladgklnacihkaaGreat
set_option linter.unusedVariables false
open Go.RowKit

/-- A point stands in a rectangle. -/
def inR (X0 Y0 X1 Y1 : Int) (p : Pt) : Bool := decide (X0 ≤ p.x ∧ p.x ≤ X1 ∧ Y0 ≤ p.y ∧ p.y ≤ Y1)
/-- How many points stand in a rectangle. -/
def cntR (L : List Pt) (X0 Y0 X1 Y1 : Int) : Nat := L.countP (inR X0 Y0 X1 Y1)

/-- Of a list with rising x what stands from a to b is what has an x between. -/
theorem range_cnt (S : List Pt) (X0 X1 : Int) (a b : Nat) (hs : ∀ i j (h : i < j) (hj : j < S.length), (S[i]'(by omega)).x ≤ S[j].x) (ha : a ≤ S.length) (hb : b ≤ S.length)
    (a1 : ∀ i (h : i < S.length), i < a → S[i].x < X0) (a2 : ∀ h : a < S.length, X0 ≤ S[a].x)
    (b1 : ∀ i (h : i < S.length), i < b → S[i].x ≤ X1) (b2 : ∀ h : b < S.length, X1 < S[b].x) (q : Pt → Bool) :
    ((S.take (max a b)).drop a).countP q = S.countP (fun p => decide (X0 ≤ p.x ∧ p.x ≤ X1) && q p) := by
  have e1 : S = S.take a ++ ((S.take (max a b)).drop a ++ S.drop (max a b)) := by
    have h1 := List.take_append_drop (max a b) S
    have h2 := List.take_append_drop a (S.take (max a b))
    rw [List.take_take, Nat.min_eq_left (Nat.le_max_left a b)] at h2
    rw [← List.append_assoc, h2, h1]
  have f1 : (S.take a).countP (fun p => decide (X0 ≤ p.x ∧ p.x ≤ X1) && q p) = 0 := by
    rw [List.countP_eq_zero]
    intro p hp
    obtain ⟨i, hi, rfl⟩ := List.getElem_of_mem hp
    rw [List.length_take] at hi
    have := a1 i (by omega) (by omega)
    rw [List.getElem_take]
    have h3 : ¬ X0 ≤ S[i].x := by omega
    simp [h3]
  have f3 : (S.drop (max a b)).countP (fun p => decide (X0 ≤ p.x ∧ p.x ≤ X1) && q p) = 0 := by
    rw [List.countP_eq_zero]
    intro p hp
    obtain ⟨i, hi, rfl⟩ := List.getElem_of_mem hp
    rw [List.length_drop] at hi
    rw [List.getElem_drop]
    have h4 : b < S.length := by omega
    have h5 := b2 h4
    have h6 : S[b].x ≤ (S[max a b + i]'(by omega)).x := by
      rcases Nat.eq_or_lt_of_le (show b ≤ max a b + i by omega) with e | e
      · simp only [← e]; exact Int.le_refl _
      · exact hs b (max a b + i) e (by omega)
    have h3 : ¬ (S[max a b + i]'(by omega)).x ≤ X1 := by omega
    simp [h3]
  have f2 : ((S.take (max a b)).drop a).countP (fun p => decide (X0 ≤ p.x ∧ p.x ≤ X1) && q p) = ((S.take (max a b)).drop a).countP q := by
    apply List.countP_congr
    intro p hp
    obtain ⟨i, hi, rfl⟩ := List.getElem_of_mem hp
    rw [List.length_drop, List.length_take] at hi
    rw [List.getElem_drop, List.getElem_take]
    have h4 : a + i < b := by omega
    have h5 := b1 (a + i) (by omega) h4
    have h6 := a2 (by omega)
    have h7 : S[a].x ≤ S[a + i].x := by
      rcases Nat.eq_or_lt_of_le (show a ≤ a + i by omega) with e | e
      · simp only [← e]; exact Int.le_refl _
      · exact hs a (a + i) e (by omega)
    have h8 : X0 ≤ S[a + i].x := by omega
    simp [h5, h8]
  conv => rhs; rw [e1]
  rw [List.countP_append, List.countP_append, f1, f2, f3]
  omega

/-- What is at most Y1, less what is below Y0. -/
theorem two_cnt (M : List Pt) (Y0 Y1 : Int) : max 0 (((M.countP fun p => decide (p.y ≤ Y1) : Nat) : Int) - ((M.countP fun p => decide (p.y < Y0) : Nat) : Int)) = ((M.countP fun p => decide (Y0 ≤ p.y ∧ p.y ≤ Y1) : Nat) : Int) := by
  by_cases h : Y0 ≤ Y1
  · have : M.countP (fun p => decide (p.y ≤ Y1)) = M.countP (fun p => decide (p.y < Y0)) + M.countP (fun p => decide (Y0 ≤ p.y ∧ p.y ≤ Y1)) := by
      induction M with
      | nil => rfl
      | cons p M ih =>
        simp only [List.countP_cons, decide_eq_true_eq]
        split <;> split <;> split <;> omega
    omega
  · have : M.countP (fun p => decide (p.y ≤ Y1)) ≤ M.countP (fun p => decide (p.y < Y0)) ∧ M.countP (fun p => decide (Y0 ≤ p.y ∧ p.y ≤ Y1)) = 0 := by
      induction M with
      | nil => exact ⟨Nat.le_refl _, rfl⟩
      | cons p M ih =>
        simp only [List.countP_cons, decide_eq_true_eq]
        split <;> split <;> split <;> omega
    omega

/-- Ranks below a number's place count numbers below it. -/
theorem rank_cnt (q : Int → Bool) (V : List Int) (hV : Up V) (k : Nat) (k1 : ∀ i, i < k → i < V.length → q (V.getD i 0) = true) (k2 : ∀ i, k ≤ i → i < V.length → q (V.getD i 0) = false) (ys : List Int) (R : List Nat) (hl : R.length = ys.length)
    (hr : ∀ i, i < ys.length → R.getD i 0 < V.length ∧ V.getD (R.getD i 0) 0 = ys.getD i 0) :
    R.countP (fun r => decide (r < k)) = ys.countP q := by
  induction ys generalizing R with
  | nil =>
    have : R = [] := List.length_eq_zero_iff.1 (by simpa using hl)
    subst this; rfl
  | cons y ys ih =>
    cases R with
    | nil => simp at hl
    | cons r R =>
      have h0 := hr 0 (by simp)
      simp only [List.getD_cons_zero] at h0
      have h1 := ih R (by simpa using hl) (fun i hi => by
        have := hr (i + 1) (by simp; omega)
        simpa using this)
      rw [List.countP_cons, List.countP_cons, h1]
      congr 1
      rw [← h0.2]
      by_cases h : r < k
      · rw [k1 r h h0.1]; simp [h]
      · rw [k2 r (by omega) h0.1]; simp [h]

theorem sg_map {S : List Pt} (f : Pt → Int) (a b : Nat) (q : Int → Bool) : (((S.map f).take b).drop a).countP q = ((S.take b).drop a).countP (fun p => q (f p)) := by
  rw [← List.map_take, ← List.map_drop, List.countP_map]; rfl

end Go.Proofs.YtladgklnacihkaaGreat

/- A range over a function whose rounds come in a known order: the rule for the loop, out of the iterator's contract and one walk of the body. -/
namespace Go.Proofs.YtladgklnacihkaaGreat
set_option linter.unusedVariables false
open Go.RowKit

/-- What an iterator does: rounds 0 to n - 1, round k with the values encs k; Kp is what a round keeps for it. -/
def Gives (P : Program) (g : Nat) (lb : Array Value) (encs : Nat → Array Value) (Kp : World → World → Prop) (n : Nat) (w : World) : Prop :=
  ∀ (l : Nat) (J : Nat → World → Prop) (W : World), Below w.heap.size w W → AbidesFrom W.heap.size J →
    (∀ k W1, k < n → J k W1 → YieldAt Fence.wide 1 P l (encs k) W1 fun e W' => e = .returned (.bool true) ∧ J (k + 1) W' ∧ Kp W1 W') →
    J 0 W → CallsIn Fence.wide 2 P g (#[.func (.yield l) #[] #[]] ++ lb) W fun e W' => (∃ v, e = .returned v) ∧ J n W'

/-- How the body of a round is left. -/
def roundEnd (B : Nat) (Kp : World → World → Prop) (I : Nat → World → Prop) (k : Nat) (W : World) : Exit → Act → World → Prop
  | .normal, _, W' => KeepsFrom B W W' ∧ Kp W W' ∧ I (k + 1) W'
  | _, _, _ => False

theorem range_law {P : Program} {g : Operand} {ps : Array Tmp} {assign body : Code} {Q : Exit → Act → World → Prop} {a : Act} {w : World}
    {gf : Nat} {lb : Array Value} (hg : a.eval g = .func (.func gf) #[] lb) (eg : ∀ args w, (callFunc gf args).run P w = .ok (.enter gf args) w)
    {encs : Nat → Array Value} {Kp : World → World → Prop} {N : Nat} {w0 : World} (hseq : Gives P gf lb encs Kp N w0)
    (hKt : ∀ {A B C : World}, Kp A B → Kp B C → Kp A C) (hKb : ∀ (W : World) (l : Nat) (o o' : Obj), w.heap.size ≤ l → W.heap[l]? = some o → o.isCells = false → Kp W (W.putObj l o'))
    (hb0 : Below w0.heap.size w0 w) (hps : ∀ k, (encs k).size = ps.size)
    (I : Nat → World → Prop) (hI : OwnFrom w.heap.size I) (h0 : I 0 w) (Ax : Nat → Act → World → Prop) (hAx : ∀ k a', OwnFrom w.heap.size (fun (_ : Unit) W => Ax k a' W))
    (hassign : ∀ (l k : Nat) (W : World) (K : Act → World → Prop), k < N → w.heap.size ≤ W.heap.size → I k W → (∀ a' W', KeepsFrom w.heap.size W W' → Kp W W' → I k W' → Ax k a' W' → K a' W') →
      assign.wpIn (Fence.wide.inRound l) 1 P (Exit.then K (fun _ _ _ => False)) { tmps := (ps.zip (encs k)).foldl (fun t (p, v) => t.setIfInBounds p v) a.tmps, defers := [] } W)
    (hbody : ∀ (l k : Nat) (a' : Act) (W : World), k < N → w.heap.size ≤ W.heap.size → I k W → Ax k a' W → body.wpIn (Fence.wide.inRound l) 1 P (roundEnd w.heap.size Kp I k W) a' W)
    (hdone : ∀ (D : Nat) (W : World), w.heap.size ≤ D → I N W → W.heap[D]? = some (.deferred (some [])) → Q .normal { a with defers := { target := .collected D, args := #[] } :: a.defers } W) :
    (Code.rangeFunc g ps assign body).wpIn Fence.wide 3 P Q a w := by
  refine wpIn_rangeFunc fun fn hfn => ?_
  rw [show Fence.wide.round = none from rfl]
  let rc : LoopState → Loop := fun st => { state := st, pending := none, fn, tmps := a.tmps, params := ps, assign, body, defers := w.heap.size }
  have hz : (w.alloc (.deferred (some []))).heap.size = w.heap.size + 1 := alloc_size _ _
  -- the loop's record and the block for what is deferred
  let Bk : LoopState → World → Prop := fun st W => W.heap[w.heap.size + 1]? = some (.loop (rc st)) ∧ W.heap[w.heap.size]? = some (.deferred (some []))
  have hB1 : Bk .ready ((w.alloc (.deferred (some []))).alloc (.loop (rc .ready))) := by
    refine ⟨?_, ?_⟩
    · have := World.alloc_heap_new (w.alloc (.deferred (some []))) (.loop (rc .ready)); rwa [hz] at this
    · exact (Below.heap_alloc _ _ _ (by rw [hz]; omega)).trans (World.alloc_heap_new w _)
  have hput : ∀ (st st' : LoopState) (W : World), Bk st W → Bk st' (W.putObj (w.heap.size + 1) (.loop (rc st'))) := fun st st' W h =>
    ⟨World.putObj_heap_same (Array.getElem?_eq_some_iff.1 h.1).1, (World.putObj_heap_other (by omega)).trans h.2⟩
  have hkeep : ∀ (st : LoopState) (W W' : World), Bk st W → KeepsFrom w.heap.size W W' → Bk st W' := fun st W W' h hk => ⟨hk.same _ _ (by omega) h.1 rfl, hk.same _ _ (Nat.le_refl _) h.2 rfl⟩
  have hle : ∀ (st : LoopState) (W : World), Bk st W → w.heap.size ≤ W.heap.size := fun st W h => by have := (Array.getElem?_eq_some_iff.1 h.2).1; omega
  refine ⟨w.heap.size + 1, [{ target := .collected w.heap.size, args := #[] }], (w.alloc (.deferred (some []))).alloc (.loop (rc .ready)), { target := .fn (.func gf) lb, args := #[.func (.yield (w.heap.size + 1)) #[] #[]] }, (w.alloc (.deferred (some []))).alloc (.loop (rc .ready)), gf, #[.func (.yield (w.heap.size + 1)) #[] #[]] ++ lb, (w.alloc (.deferred (some []))).alloc (.loop (rc .ready)),
    run_enterLoop_outer fn a.tmps ps assign body, ?_, fun _ _ => trivial, ?_, fun h => by simp [Fence.wide] at h, ?_⟩
  · simp only [resolve, hg]; simp [go_sem]
  · simp [invoke, go_sem, eg]
  refine (hseq (w.heap.size + 1) (fun k W => I k W ∧ Bk .ready W) _ ?_ ?_ ?_ ⟨hI.alloc _ (hI.alloc _ h0), hB1⟩).mono ?_
  · exact hb0.trans ((((Below.refl _ w).alloc (Nat.le_refl _) _).alloc (by rw [hz]; omega) _).mono hb0.size)
  · intro k X Y row hs hgr hr
    have hr' : ∀ r, row = some r → w.heap.size ≤ r ∧ ∃ o : Obj, X.heap[r]? = some o ∧ o.isCells = false := fun r e => by
      obtain ⟨h1, o, ho, hw⟩ := hr r e
      rw [alloc_size, alloc_size] at h1
      exact ⟨by omega, o, ho, Obj.not_cells_of_walk hw⟩
    exact ⟨hI k X Y row hs.1 hgr hr', (grownBy_keeps hgr (fun r e => (hr r e).2) hs.2.1 rfl).trans hs.2.1, (grownBy_keeps hgr (fun r e => (hr r e).2) hs.2.2 rfl).trans hs.2.2⟩
  · rintro k W hk ⟨hi, hB⟩
    refine ⟨fn, _, assign, body, run_yield hB.1 (hps k), roundIn_of_wpIn hfn (hassign _ k W _ hk (hle _ _ hB) hi ?_)⟩
    intro a' Wa hka hpa hia hax
    have hBa := hkeep _ _ _ hB hka
    refine ⟨_, run_beginRound hBa.1 rfl, ?_⟩
    have hBb := hput .ready .busy Wa hBa
    have hpb : Kp Wa (Wa.putObj (w.heap.size + 1) (.loop (rc .busy))) := hKb _ _ _ _ (by omega) hBa.1 rfl
    refine wpIn_mono (hbody _ k a' _ hk (hle _ _ hBb) (hI.putObj _ hia (by omega) hBa.1 rfl) ((hAx k a').putObj (s := ()) _ hax (by omega) hBa.1 rfl)) ?_
    rintro e a3 W3 hp
    cases e with
    | normal =>
      obtain ⟨hk3, hp3, hi3⟩ := hp
      have hB3 := hkeep _ _ _ hBb hk3
      refine ⟨_, _, run_endRound none hB3.1, rfl, ⟨hI.putObj _ hi3 (by omega) hB3.1 rfl, hput .busy .ready W3 hB3⟩, hKt hpa (hKt (hKt hpb hp3) (hKb _ _ _ _ (by omega) hB3.1 rfl))⟩
    | _ => exact hp.elim
  · rintro e W2 ⟨⟨v, rfl⟩, hi, hB⟩
    exact ⟨none, _, run_endLoop hB.1 (by simp [rc]), hdone _ _ (Nat.le_refl _) (hI.putObj _ hi (by omega) hB.1 rfl) ((World.putObj_heap_other (by omega)).trans hB.2)⟩

end Go.Proofs.YtladgklnacihkaaGreat


/- Rectangles together: the plain facts of a sweep. -/
import Derived.Test.YtlmdlholmlbcbaaPickP
namespace Go.Proofs.Ytlmdlholmlbcbaa.Pick
set_option linter.unusedVariables false

/-- A rectangle. -/
structure Rc where
  x0 : Int
  y0 : Int
  x1 : Int
  y1 : Int
instance : Inhabited Rc := ⟨⟨0, 0, 0, 0⟩⟩
/-- A border of a rectangle. -/
structure Bd where
  x : Int
  lo : Int
  hi : Int
  d : Int
instance : Inhabited Bd := ⟨⟨0, 0, 0, 0⟩⟩
abbrev bd0 : Bd := ⟨0, 0, 0, 0⟩
def inRc (r : Rc) (x y : Int) : Bool := decide (r.x0 ≤ x ∧ x ≤ r.x1 ∧ r.y0 ≤ y ∧ y ≤ r.y1)
theorem inRc_iff (r : Rc) (x y : Int) : inRc r x y = true ↔ r.x0 ≤ x ∧ x ≤ r.x1 ∧ r.y0 ≤ y ∧ y ≤ r.y1 := by unfold inRc; rw [decide_eq_true_eq]
/-- How many have a place. -/
def cov : List Rc → Int → Int → Int
  | [], _, _ => 0
  | r :: l, x, y => (if inRc r x y then 1 else 0) + cov l x y
def conB (b : Bd) (y : Int) : Int := if b.lo ≤ y ∧ y < b.hi then b.d else 0
def vB : List Bd → Int → Int
  | [], _ => 0
  | b :: B, y => conB b y + vB B y
def bds : List Rc → List Bd
  | [] => []
  | r :: l => ⟨r.x0, r.y0, r.y1 + 1, 1⟩ :: ⟨r.x1 + 1, r.y0, r.y1 + 1, -1⟩ :: bds l
theorem bds_append : ∀ l m, bds (l ++ m) = bds l ++ bds m
  | [], _ => rfl
  | r :: l, m => by show _ :: _ :: bds (l ++ m) = _; rw [bds_append l m]; rfl
theorem bds_length : ∀ l, (bds l).length = 2 * l.length
  | [] => rfl
  | r :: l => by show (bds l).length + 1 + 1 = _; rw [bds_length l, List.length_cons]; omega
theorem vB_append : ∀ B C y, vB (B ++ C) y = vB B y + vB C y
  | [], C, y => by show vB C y = 0 + vB C y; omega
  | b :: B, C, y => by show conB b y + vB (B ++ C) y = conB b y + vB B y + vB C y; rw [vB_append B C y]; omega
theorem vB_perm {B C : List Bd} (h : B.Perm C) (y : Int) : vB B y = vB C y := by
  induction h with
  | nil => rfl
  | cons b _ ih => show conB b y + _ = conB b y + _; rw [ih]
  | swap a b l => show conB b y + (conB a y + _) = conB a y + (conB b y + _); omega
  | trans _ _ h1 h2 => rw [h1, h2]
theorem cov_vB (x y : Int) : ∀ l : List Rc, (∀ r ∈ l, r.x0 ≤ r.x1) → cov l x y = vB ((bds l).filter (fun b => decide (b.x ≤ x))) y
  | [], _ => rfl
  | r :: l, h => by
    have ih := cov_vB x y l (fun r hr => h r (List.mem_cons_of_mem _ hr))
    have h1 := h r List.mem_cons_self
    show (if inRc r x y then 1 else 0) + cov l x y = _
    rw [ih]
    have e : bds (r :: l) = ⟨r.x0, r.y0, r.y1 + 1, 1⟩ :: ⟨r.x1 + 1, r.y0, r.y1 + 1, -1⟩ :: bds l := rfl
    rw [e, List.filter_cons, List.filter_cons]
    simp only [decide_eq_true_eq]
    generalize List.filter (fun b : Bd => decide (b.x ≤ x)) (bds l) = F
    by_cases hy : r.y0 ≤ y ∧ y ≤ r.y1
    · by_cases h2 : r.x0 ≤ x
      · rw [if_pos h2]
        by_cases h3 : r.x1 + 1 ≤ x
        · rw [if_pos h3, if_neg (fun q => by have := (inRc_iff r x y).1 q; omega)]
          show 0 + vB F y = conB _ y + (conB _ y + vB F y)
          unfold conB
          dsimp only
          rw [if_pos (by omega), if_pos (by omega)]
          omega
        · rw [if_neg h3, if_pos ((inRc_iff r x y).2 (by omega))]
          show 1 + vB F y = conB _ y + vB F y
          unfold conB
          dsimp only
          rw [if_pos (by omega)]
      · rw [if_neg (fun q => by have := (inRc_iff r x y).1 q; omega : ¬ inRc r x y = true), if_neg h2, if_neg (by omega : ¬ r.x1 + 1 ≤ x)]
        omega
    · rw [if_neg (fun q => by have := (inRc_iff r x y).1 q; omega : ¬ inRc r x y = true)]
      have z : ∀ (a d : Int), conB ⟨a, r.y0, r.y1 + 1, d⟩ y = 0 := fun a d => by unfold conB; dsimp only; rw [if_neg (by omega)]
      have z2 : ∀ (a d : Int) (X : List Bd), vB (⟨a, r.y0, r.y1 + 1, d⟩ :: X) y = vB X y := fun a d X => by show conB _ y + _ = _; rw [z]; omega
      split <;> split <;> (try simp only [z2]) <;> omega
theorem filter_take : ∀ (B : List Bd) (x : Int) (i : Nat), i ≤ B.length → (∀ k, k < i → (B.getD k bd0).x ≤ x) → (∀ k, i ≤ k → k < B.length → x < (B.getD k bd0).x) → B.filter (fun b => decide (b.x ≤ x)) = B.take i
  | [], _, i, hi, _, _ => by simp at hi; subst hi; rfl
  | b :: B, x, 0, _, _, h2 => by
    rw [List.take_zero, List.filter_eq_nil_iff]
    intro c hc
    obtain ⟨k, hk, rfl⟩ := List.getElem_of_mem hc
    have := h2 k (Nat.zero_le _) hk
    rw [getD_at _ _ hk] at this
    simp only [decide_eq_true_eq]
    omega
  | b :: B, x, i + 1, hi, h1, h2 => by
    have h0 := h1 0 (by omega)
    rw [List.filter_cons, if_pos (by simpa using h0), List.take_succ_cons]
    rw [filter_take B x i (by simpa using hi) (fun k hk => by have := h1 (k + 1) (by omega); simpa using this) (fun k hk hk2 => by have := h2 (k + 1) (by omega) (by simp; omega); simpa using this)]
/-- The cover at an x between two borders. -/
theorem cov_take {l : List Rc} {B : List Bd} {i : Nat} {x : Int} (hl : ∀ r ∈ l, r.x0 ≤ r.x1) (hp : B.Perm (bds l)) (hi : i ≤ B.length) (h1 : ∀ k, k < i → (B.getD k bd0).x ≤ x) (h2 : ∀ k, i ≤ k → k < B.length → x < (B.getD k bd0).x) (y : Int) : cov l x y = vB (B.take i) y := by
  rw [cov_vB x y l hl, ← filter_take B x i hi h1 h2]
  exact vB_perm (hp.symm.filter _) y
theorem vB_succ {B : List Bd} {i : Nat} (hi : i < B.length) (y : Int) : vB (B.take (i + 1)) y = vB (B.take i) y + conB (B.getD i bd0) y := by
  rw [List.take_succ_eq_append_getElem hi, vB_append, getD_at _ _ hi]
  show _ + (conB _ y + 0) = _
  omega
/-- Rows between the ys. -/
theorem vB_const : ∀ (B : List Bd) (a c y : Int), (∀ b ∈ B, (b.lo ≤ a ∨ c ≤ b.lo) ∧ (b.hi ≤ a ∨ c ≤ b.hi)) → a ≤ y → y < c → vB B y = vB B a
  | [], _, _, _, _, _, _ => rfl
  | b :: B, a, c, y, h, h1, h2 => by
    obtain ⟨h3, h4⟩ := h b List.mem_cons_self
    show conB b y + _ = conB b a + _
    rw [vB_const B a c y (fun b hb => h b (List.mem_cons_of_mem _ hb)) h1 h2]
    have : conB b y = conB b a := by
      unfold conB
      by_cases q : b.lo ≤ a ∧ a < b.hi
      · rw [if_pos q, if_pos (by omega)]
      · rw [if_neg q, if_neg (by omega)]
    rw [this]
theorem vB_zero : ∀ (B : List Bd) (y : Int), (∀ b ∈ B, y < b.lo ∨ b.hi ≤ y) → vB B y = 0
  | [], _, _ => rfl
  | b :: B, y, h => by
    have h1 := h b List.mem_cons_self
    show conB b y + _ = 0
    rw [vB_zero B y (fun b hb => h b (List.mem_cons_of_mem _ hb))]
    unfold conB
    rw [if_neg (by omega)]; omega
def stripS (Y : List Int) (g : Int → Bool) (k : Nat) : Int := sumN k (fun j => if g (Y.getD j 0) then Y.getD (j + 1) 0 - Y.getD j 0 else 0)
/-- The rows that count, strip by strip. -/
theorem strip_sum {Y : List Int} {g : Int → Bool} {lo : Int} {n : Nat} (h0 : 0 < Y.length) (hY : ∀ j, j + 1 < Y.length → Y.getD j 0 < Y.getD (j + 1) 0) (hb : lo ≤ Y.getD 0 0 ∧ Y.getD (Y.length - 1) 0 ≤ lo + n)
    (hg : ∀ j, j + 1 < Y.length → ∀ y, Y.getD j 0 ≤ y → y < Y.getD (j + 1) 0 → g y = g (Y.getD j 0)) (hz : ∀ y, y < Y.getD 0 0 ∨ Y.getD (Y.length - 1) 0 ≤ y → g y = false) :
    sumN n (fun i => if g (lo + i) then 1 else 0) = stripS Y g (Y.length - 1) := by
  have hle : ∀ j, j < Y.length → Y.getD 0 0 ≤ Y.getD j 0 := by
    intro j
    induction j with
    | zero => intro _; exact Int.le_refl _
    | succ j ih => intro hj; have := ih (by omega); have := hY j hj; omega
  have key : ∀ k, k < Y.length → ∀ m : Nat, (m : Int) = Y.getD k 0 - lo → sumN m (fun i => if g (lo + i) then 1 else 0) = stripS Y g k := by
    intro k
    induction k with
    | zero =>
      intro _ m hm
      rw [sumN_zero m (fun i hi => if_neg (fun q => by rw [hz (lo + i) (.inl (by omega))] at q; cases q))]
      rfl
    | succ k ih =>
      intro hk m hm
      have h1 := hY k hk
      have h2 := hle k (by omega)
      obtain ⟨m', hm'⟩ : ∃ m' : Nat, (m' : Int) = Y.getD k 0 - lo := ⟨(Y.getD k 0 - lo).toNat, by omega⟩
      obtain ⟨c, hc⟩ : ∃ c : Nat, (c : Int) = Y.getD (k + 1) 0 - Y.getD k 0 := ⟨(Y.getD (k + 1) 0 - Y.getD k 0).toNat, by omega⟩
      have e : m = m' + c := by omega
      rw [e, sumN_cat, ih (by omega) m' hm']
      show _ = stripS Y g k + (if g (Y.getD k 0) then Y.getD (k + 1) 0 - Y.getD k 0 else 0)
      rw [sumN_congr c (g := fun _ => if g (Y.getD k 0) then 1 else 0) (fun i hi => by rw [hg k hk _ (by omega) (by omega)])]
      rw [sumN_const]
      split <;> omega
  obtain ⟨m, hm⟩ : ∃ m : Nat, (m : Int) = Y.getD (Y.length - 1) 0 - lo := ⟨(Y.getD (Y.length - 1) 0 - lo).toNat, by have := hle (Y.length - 1) (by omega); omega⟩
  obtain ⟨c, hc⟩ : ∃ c : Nat, (c : Int) = lo + n - Y.getD (Y.length - 1) 0 := ⟨(lo + n - Y.getD (Y.length - 1) 0).toNat, by omega⟩
  have e : n = m + c := by omega
  rw [e, sumN_cat, key (Y.length - 1) (by omega) m hm]
  rw [sumN_zero c (fun i hi => if_neg (fun q => by rw [hz _ (.inr (by omega))] at q; cases q))]
  omega
/-- What a sweep goes by: Y, all rows where something begins or ends; B, the borders by x. -/
structure IsSweep (l : List Rc) (Y : List Int) (B : List Bd) : Prop where
  ok : ∀ r ∈ l, r.x0 ≤ r.x1 ∧ r.y0 ≤ r.y1
  perm : B.Perm (bds l)
  up : ∀ i j, i ≤ j → j < B.length → (B.getD i bd0).x ≤ (B.getD j bd0).x
  ys : ∀ j, j + 1 < Y.length → Y.getD j 0 < Y.getD (j + 1) 0
  mem : ∀ y, y ∈ Y ↔ ∃ r ∈ l, y = r.y0 ∨ y = r.y1 + 1
theorem bds_mem : ∀ (l : List Rc) (b : Bd), b ∈ bds l → ∃ r ∈ l, b.lo = r.y0 ∧ b.hi = r.y1 + 1 ∧ (b.x = r.x0 ∨ b.x = r.x1 + 1) ∧ (b.d = 1 ∨ b.d = -1)
  | [], _, h => absurd h List.not_mem_nil
  | r :: l, b, h => by
    rcases List.mem_cons.1 h with rfl | h
    · exact ⟨r, List.mem_cons_self, rfl, rfl, .inl rfl, .inl rfl⟩
    · rcases List.mem_cons.1 h with rfl | h
      · exact ⟨r, List.mem_cons_self, rfl, rfl, .inr rfl, .inr rfl⟩
      · obtain ⟨q, hq, h1⟩ := bds_mem l b h
        exact ⟨q, List.mem_cons_of_mem _ hq, h1⟩
theorem Y_mono {Y : List Int} (h : ∀ j, j + 1 < Y.length → Y.getD j 0 < Y.getD (j + 1) 0) : ∀ j i, i < j → j < Y.length → Y.getD i 0 < Y.getD j 0 := by
  intro j
  induction j with
  | zero => intro i hi; omega
  | succ j ih =>
    intro i hi hj
    by_cases e : i = j
    · subst e; exact h i hj
    · have := ih i (by omega) (by omega); have := h j hj; omega
theorem sweep_bd {l : List Rc} {Y : List Int} {B : List Bd} (h : IsSweep l Y B) (b : Bd) (hb : b ∈ B) : b.lo ∈ Y ∧ b.hi ∈ Y ∧ b.lo < b.hi ∧ (b.d = 1 ∨ b.d = -1) := by
  obtain ⟨r, hr, h1, h2, _, h4⟩ := bds_mem l b (h.perm.mem_iff.1 hb)
  have := h.ok r hr
  exact ⟨(h.mem _).2 ⟨r, hr, .inl h1⟩, (h.mem _).2 ⟨r, hr, .inr h2⟩, by omega, h4⟩
theorem mem_idx {Y : List Int} {y : Int} (h : y ∈ Y) : ∃ j, j < Y.length ∧ Y.getD j 0 = y := by
  obtain ⟨j, hj, e⟩ := List.getElem_of_mem h
  exact ⟨j, hj, by rw [getD_at _ _ hj]; exact e⟩
/-- The column of an x between two borders. -/
theorem column {l : List Rc} {Y : List Int} {B : List Bd} (h : IsSweep l Y B) {i : Nat} {x lo : Int} {n : Nat} (hi : i ≤ B.length) (h1 : ∀ k, k < i → (B.getD k bd0).x ≤ x) (h2 : ∀ k, i ≤ k → k < B.length → x < (B.getD k bd0).x) (h0 : 0 < Y.length) (hb : lo ≤ Y.getD 0 0 ∧ Y.getD (Y.length - 1) 0 ≤ lo + n) :
    sumN n (fun j => if 0 < cov l x (lo + j) then 1 else 0) = stripS Y (fun y => decide (0 < vB (B.take i) y)) (Y.length - 1) := by
  have hc := cov_take (fun r hr => (h.ok r hr).1) h.perm hi h1 h2
  have hB : ∀ b ∈ B.take i, b.lo ∈ Y ∧ b.hi ∈ Y := fun b hb => by
    have := sweep_bd h b (List.mem_of_mem_take hb)
    exact ⟨this.1, this.2.1⟩
  rw [← strip_sum h0 h.ys hb (fun j hj y hy1 hy2 => ?_) (fun y hy => ?_)]
  · refine sumN_congr n (fun j _ => ?_)
    rw [hc]
    by_cases q : 0 < vB (B.take i) (lo + j)
    · rw [if_pos q, if_pos (decide_eq_true q)]
    · rw [if_neg q, if_neg (by simpa using q)]
  · rw [vB_const (B.take i) (Y.getD j 0) (Y.getD (j + 1) 0) y (fun b hb => ?_) hy1 hy2]
    obtain ⟨a1, a2⟩ := hB b hb
    obtain ⟨p, hp, e1⟩ := mem_idx a1
    obtain ⟨q, hq, e2⟩ := mem_idx a2
    rw [← e1, ← e2]
    have mono : ∀ t, t < Y.length → Y.getD t 0 ≤ Y.getD j 0 ∨ Y.getD (j + 1) 0 ≤ Y.getD t 0 := fun t ht => by
      by_cases c : t ≤ j
      · left
        by_cases e : t = j
        · subst e; exact Int.le_refl _
        · have := Y_mono h.ys j t (by omega) (by omega); omega
      · right
        by_cases e : t = j + 1
        · subst e; exact Int.le_refl _
        · have := Y_mono h.ys t (j + 1) (by omega) ht; omega
    exact ⟨mono p hp, mono q hq⟩
  · rw [decide_eq_false_iff_not, vB_zero (B.take i) y (fun b hb => ?_)]
    · omega
    · obtain ⟨a1, a2⟩ := hB b hb
      obtain ⟨p, hp, e1⟩ := mem_idx a1
      obtain ⟨q, hq, e2⟩ := mem_idx a2
      rw [← e1, ← e2]
      rcases hy with hy | hy
      · left
        by_cases e : p = 0
        · subst e; exact hy
        · have := Y_mono h.ys p 0 (by omega) hp; omega
      · right
        by_cases e : q = Y.length - 1
        · subst e; exact hy
        · have := Y_mono h.ys (Y.length - 1) q (by omega) (by omega); omega
def colF (l : List Rc) (lo : Int) (n : Nat) (x : Int) : Int := sumN n (fun j => if 0 < cov l x (lo + j) then 1 else 0)
/-- How many places are covered, of a box. -/
def tot (l : List Rc) (lo : Int) (n : Nat) : Int := sumN n (fun i => colF l lo n (lo + i))
theorem cov_none (l : List Rc) (x y : Int) (h : ∀ r ∈ l, inRc r x y = false) : cov l x y = 0 := by
  induction l with
  | nil => rfl
  | cons r l ih =>
    show (if inRc r x y then 1 else 0) + cov l x y = 0
    rw [h r List.mem_cons_self, ih (fun r hr => h r (List.mem_cons_of_mem _ hr))]; rfl
theorem cov_nonneg (l : List Rc) (x y : Int) : 0 ≤ cov l x y := by
  induction l with
  | nil => exact Int.le_refl _
  | cons r l ih =>
    show 0 ≤ (if inRc r x y then 1 else 0) + cov l x y
    split <;> omega
theorem cov_le (l : List Rc) (x y : Int) : cov l x y ≤ l.length := by
  induction l with
  | nil => exact Int.le_refl _
  | cons r l ih =>
    show (if inRc r x y then 1 else 0) + cov l x y ≤ ((l.length + 1 : Nat) : Int)
    split <;> omega
theorem cov_pos (l : List Rc) (x y : Int) : 0 < cov l x y ↔ ∃ r ∈ l, inRc r x y = true := by
  induction l with
  | nil => constructor
           · intro h; exact absurd h (by show ¬ (0 : Int) < 0; omega)
           · rintro ⟨r, hr, _⟩; exact absurd hr List.not_mem_nil
  | cons r l ih =>
    have h0 := cov_nonneg l x y
    show 0 < (if inRc r x y then 1 else 0) + cov l x y ↔ _
    constructor
    · intro h
      by_cases q : inRc r x y = true
      · exact ⟨r, List.mem_cons_self, q⟩
      · rw [if_neg q] at h
        obtain ⟨s, hs, h1⟩ := ih.1 (by omega)
        exact ⟨s, List.mem_cons_of_mem _ hs, h1⟩
    · rintro ⟨s, hs, h1⟩
      rcases List.mem_cons.1 hs with rfl | hs
      · rw [if_pos h1]; omega
      · have := ih.2 ⟨s, hs, h1⟩
        split <;> omega
theorem cov_full (l : List Rc) (x y : Int) : cov l x y = l.length ↔ ∀ r ∈ l, inRc r x y = true := by
  induction l with
  | nil => exact ⟨fun _ r hr => absurd hr List.not_mem_nil, fun _ => rfl⟩
  | cons r l ih =>
    have h0 := cov_le l x y
    show (if inRc r x y then 1 else 0) + cov l x y = ((l.length + 1 : Nat) : Int) ↔ _
    constructor
    · intro h s hs
      by_cases q : inRc r x y = true
      · rw [if_pos q] at h
        rcases List.mem_cons.1 hs with rfl | hs
        · exact q
        · exact ih.1 (by omega) s hs
      · rw [if_neg q] at h; omega
    · intro h
      rw [if_pos (h r List.mem_cons_self)]
      have := ih.2 (fun s hs => h s (List.mem_cons_of_mem _ hs))
      omega
theorem col_none (l : List Rc) (lo : Int) (n : Nat) (x : Int) (h : ∀ r ∈ l, x < r.x0 ∨ r.x1 < x) : colF l lo n x = 0 := by
  unfold colF
  refine sumN_zero n (fun j _ => if_neg (fun q => ?_))
  rw [cov_none l x _ (fun r hr => by
    cases e : inRc r x (lo + j) with
    | false => rfl
    | true => have := (inRc_iff _ _ _).1 e; have := h r hr; omega)] at q
  omega
/-- The sum over the columns left of X. -/
def totX (l : List Rc) (lo : Int) (n : Nat) (X : Int) : Int := sumN (X - lo).toNat (fun i => colF l lo n (lo + i))
theorem totX_end {l : List Rc} {lo X : Int} {n : Nat} (h : ∀ r ∈ l, r.x1 < X) (h1 : lo ≤ X) (h2 : X ≤ lo + n) : totX l lo n X = tot l lo n := by
  unfold totX tot
  have e : n = (X - lo).toNat + (lo + n - X).toNat := by omega
  have e2 : sumN n (fun i => colF l lo n (lo + i)) = sumN ((X - lo).toNat + (lo + n - X).toNat) (fun i => colF l lo n (lo + i)) := by rw [← e]
  rw [e2, sumN_cat]
  rw [sumN_zero ((lo + n - X).toNat) (fun i _ => col_none l lo n _ (fun r hr => .inr (by have := h r hr; omega)))]
  omega
theorem totX_start {l : List Rc} {lo X : Int} {n : Nat} (h : ∀ r ∈ l, X ≤ r.x0) (h1 : lo ≤ X) : totX l lo n X = 0 := by
  unfold totX
  exact sumN_zero _ (fun i hi => col_none l lo n _ (fun r hr => .inl (by have := h r hr; omega)))
theorem totX_step {l : List Rc} {lo X X' c : Int} {n : Nat} (h1 : lo ≤ X) (h2 : X ≤ X') (h : ∀ x, X ≤ x → x < X' → colF l lo n x = c) : totX l lo n X' = totX l lo n X + (X' - X) * c := by
  unfold totX
  have e : (X' - lo).toNat = (X - lo).toNat + (X' - X).toNat := by omega
  rw [e, sumN_cat, sumN_congr (X' - X).toNat (g := fun _ => c) (fun i hi => h _ (by omega) (by omega)), sumN_const]
  rw [Int.toNat_of_nonneg (by omega)]
/-- All lies in a box. -/
def Boxed (l : List Rc) (lo : Int) (n : Nat) : Prop := ∀ r ∈ l, lo ≤ r.x0 ∧ r.x1 < lo + n ∧ lo ≤ r.y0 ∧ r.y1 < lo + n
theorem first_mem {l : List Rc} {r : Rc} (h : r ∈ l) : (⟨r.x0, r.y0, r.y1 + 1, 1⟩ : Bd) ∈ bds l ∧ (⟨r.x1 + 1, r.y0, r.y1 + 1, -1⟩ : Bd) ∈ bds l := by
  induction l with
  | nil => exact absurd h List.not_mem_nil
  | cons s l ih =>
    rcases List.mem_cons.1 h with rfl | h
    · exact ⟨List.mem_cons_self, List.mem_cons_of_mem _ List.mem_cons_self⟩
    · have := ih h
      exact ⟨List.mem_cons_of_mem _ (List.mem_cons_of_mem _ this.1), List.mem_cons_of_mem _ (List.mem_cons_of_mem _ this.2)⟩
theorem sweep_first {l : List Rc} {Y : List Int} {B : List Bd} (h : IsSweep l Y B) (h0 : 0 < B.length) : ∀ r ∈ l, (B.getD 0 bd0).x ≤ r.x0 := by
  intro r hr
  have hm := h.perm.mem_iff.2 (first_mem hr).1
  obtain ⟨k, hk, e⟩ := List.getElem_of_mem hm
  have := h.up 0 k (Nat.zero_le _) hk
  rw [getD_at B bd0 hk, e] at this
  exact this
theorem sweep_last {l : List Rc} {Y : List Int} {B : List Bd} (h : IsSweep l Y B) : ∀ r ∈ l, r.x1 < (B.getD (B.length - 1) bd0).x := by
  intro r hr
  have hm := h.perm.mem_iff.2 (first_mem hr).2
  obtain ⟨k, hk, e⟩ := List.getElem_of_mem hm
  have := h.up k (B.length - 1) (by omega) (by omega)
  rw [getD_at B bd0 hk, e] at this
  dsimp only at this
  omega
theorem sweep_x {l : List Rc} {Y : List Int} {B : List Bd} {lo : Int} {n : Nat} (h : IsSweep l Y B) (hb : Boxed l lo n) (k : Nat) (hk : k < B.length) : lo ≤ (B.getD k bd0).x ∧ (B.getD k bd0).x ≤ lo + n := by
  have hm : B.getD k bd0 ∈ bds l := h.perm.mem_iff.1 (by rw [getD_at _ _ hk]; exact List.getElem_mem _)
  obtain ⟨r, hr, _, _, h3, _⟩ := bds_mem l _ hm
  have h1 := hb r hr
  have h2 := h.ok r hr
  omega
theorem sweep_y {l : List Rc} {Y : List Int} {B : List Bd} {lo : Int} {n : Nat} (h : IsSweep l Y B) (hb : Boxed l lo n) (j : Nat) (hj : j < Y.length) : lo ≤ Y.getD j 0 ∧ Y.getD j 0 ≤ lo + n := by
  obtain ⟨r, hr, h3⟩ := (h.mem _).1 (by rw [getD_at _ _ hj]; exact List.getElem_mem _ : Y.getD j 0 ∈ Y)
  have h1 := hb r hr
  have h2 := h.ok r hr
  omega
theorem sweep_Y {l : List Rc} {Y : List Int} {B : List Bd} (h : IsSweep l Y B) (h0 : 0 < B.length) : 0 < Y.length := by
  have hm : B.getD 0 bd0 ∈ B := by rw [getD_at _ _ h0]; exact List.getElem_mem _
  obtain ⟨j, hj, _⟩ := mem_idx (sweep_bd h _ hm).1
  omega
/-- What has been summed up to the border i. -/
def accA (l : List Rc) (lo : Int) (n : Nat) (B : List Bd) : Nat → Int
  | 0 => 0
  | i + 1 => totX l lo n (B.getD i bd0).x
theorem acc_step {l : List Rc} {Y : List Int} {B : List Bd} {lo : Int} {n : Nat} (h : IsSweep l Y B) (hb : Boxed l lo n) (i : Nat) (h0 : 0 < i) (hi : i < B.length) :
    accA l lo n B (i + 1) = accA l lo n B i + ((B.getD i bd0).x - (B.getD (i - 1) bd0).x) * stripS Y (fun y => decide (0 < vB (B.take i) y)) (Y.length - 1) := by
  obtain ⟨j, rfl⟩ : ∃ j, i = j + 1 := ⟨i - 1, by omega⟩
  show totX l lo n (B.getD (j + 1) bd0).x = totX l lo n (B.getD j bd0).x + ((B.getD (j + 1) bd0).x - (B.getD j bd0).x) * _
  have hY := sweep_Y h (by omega)
  refine totX_step (sweep_x h hb j (by omega)).1 (h.up j (j + 1) (by omega) hi) (fun x h1 h2 => ?_)
  exact column h (by omega) (fun k hk => by have := h.up k j (by omega) (by omega); omega) (fun k hk hk2 => by have := h.up (j + 1) k hk hk2; omega) hY
    ⟨(sweep_y h hb 0 hY).1, (sweep_y h hb _ (by omega)).2⟩
theorem acc_one {l : List Rc} {Y : List Int} {B : List Bd} {lo : Int} {n : Nat} (h : IsSweep l Y B) (hb : Boxed l lo n) (h0 : 0 < B.length) : accA l lo n B 1 = 0 :=
  totX_start (sweep_first h h0) (sweep_x h hb 0 h0).1
theorem acc_end {l : List Rc} {Y : List Int} {B : List Bd} {lo : Int} {n : Nat} (h : IsSweep l Y B) (hb : Boxed l lo n) : accA l lo n B B.length = tot l lo n := by
  have hl := h.perm.length_eq
  rw [bds_length] at hl
  by_cases h0 : 0 < B.length
  · obtain ⟨i, hi⟩ : ∃ i, B.length = i + 1 := ⟨B.length - 1, by omega⟩
    have hx := sweep_last h
    rw [hi, show i + 1 - 1 = i by omega] at hx
    have hb2 := sweep_x h hb i (by omega)
    rw [hi]
    exact totX_end hx hb2.1 hb2.2
  · have : l = [] := List.length_eq_zero_iff.1 (by omega)
    subst this
    rw [show B.length = 0 by omega]
    show 0 = tot [] lo n
    unfold tot
    rw [sumN_zero n (fun i _ => col_none [] lo n _ (fun r hr => absurd hr List.not_mem_nil))]
/-- What Depth tells. -/
structure IsDepth (l : List Rc) (d : Int) : Prop where
  le : ∀ x y, cov l x y ≤ d
  at_ : ∃ x y, cov l x y = d
/-- Up to the border i. -/
def DepI (l : List Rc) (B : List Bd) (i : Nat) (d : Int) : Prop := (∀ k, i = k + 1 → ∀ x y, x < (B.getD k bd0).x → cov l x y ≤ d) ∧ (d = 0 ∨ ∃ x y, cov l x y = d) ∧ 0 ≤ d
theorem dep_zero (l : List Rc) (B : List Bd) : DepI l B 0 0 := ⟨fun k h => by omega, .inl rfl, Int.le_refl _⟩
theorem dep_one {l : List Rc} {Y : List Int} {B : List Bd} (h : IsSweep l Y B) (h0 : 0 < B.length) : DepI l B 1 0 := by
  refine ⟨fun k hk x y hx => ?_, .inl rfl, Int.le_refl _⟩
  obtain rfl : k = 0 := by omega
  rw [cov_none l x y (fun r hr => by
    have := sweep_first h h0 r hr
    cases e : inRc r x y with
    | false => rfl
    | true => have := (inRc_iff _ _ _).1 e; omega)]
  exact Int.le_refl _
theorem dep_skip {l : List Rc} {B : List Bd} {i : Nat} {d : Int} (h : DepI l B i d) (h0 : 0 < i) (he : (B.getD i bd0).x = (B.getD (i - 1) bd0).x) : DepI l B (i + 1) d := by
  refine ⟨fun k hk x y hx => ?_, h.2.1, h.2.2⟩
  obtain rfl : k = i := by omega
  exact h.1 (k - 1) (by omega) x y (by omega)
theorem dep_step {l : List Rc} {Y : List Int} {B : List Bd} {i : Nat} {d m : Int} (hs : IsSweep l Y B) (h : DepI l B i d) (h0 : 0 < i) (hi : i < B.length) (hlt : (B.getD (i - 1) bd0).x < (B.getD i bd0).x)
    (hm : ∀ j, j < Y.length → vB (B.take i) (Y.getD j 0) ≤ m) (hat : ∃ j, j < Y.length ∧ vB (B.take i) (Y.getD j 0) = m) : DepI l B (i + 1) (max d m) := by
  have hx : ∀ x, (B.getD (i - 1) bd0).x ≤ x → x < (B.getD i bd0).x → ∀ y, cov l x y = vB (B.take i) y := fun x h1 h2 y =>
    cov_take (fun r hr => (hs.ok r hr).1) hs.perm (by omega) (fun k hk => by have := hs.up k (i - 1) (by omega) (by omega); omega) (fun k hk hk2 => by have := hs.up i k hk hk2; omega) y
  have hx0 := hx _ (Int.le_refl _) hlt
  obtain ⟨j0, hj0, e0⟩ := hat
  have hm0 : 0 ≤ m := by rw [← e0, ← hx0]; exact cov_nonneg _ _ _
  refine ⟨fun k hk x y hxk => ?_, ?_, by have := h.2.2; omega⟩
  · obtain rfl : k = i := by omega
    by_cases hc : x < (B.getD (k - 1) bd0).x
    · have := h.1 (k - 1) (by omega) x y hc; omega
    · rw [hx x (by omega) hxk y]
      by_cases h2 : ∃ b ∈ B.take k, b.lo ≤ y ∧ y < b.hi
      · obtain ⟨b, hb, h3, h4⟩ := h2
        have hbY := sweep_bd hs b (List.mem_of_mem_take hb)
        obtain ⟨p, hp, e1⟩ := mem_idx hbY.1
        obtain ⟨q, hq, e2⟩ := mem_idx hbY.2.1
        have key : ∀ t, p ≤ t → t ≤ q → y < Y.getD t 0 → ∃ j, j + 1 < Y.length ∧ Y.getD j 0 ≤ y ∧ y < Y.getD (j + 1) 0 := by
          intro t
          induction t with
          | zero => intro a1 a2 a3; obtain rfl : p = 0 := by omega
                    omega
          | succ t ih =>
            intro a1 a2 a3
            by_cases e : Y.getD t 0 ≤ y
            · exact ⟨t, by omega, e, a3⟩
            · by_cases e3 : p = t + 1
              · rw [← e3] at a3; omega
              · exact ih (by omega) (by omega) (by omega)
        have hpq : p ≤ q := by
          by_cases c : p ≤ q
          · exact c
          · have := Y_mono hs.ys p q (by omega) hp; omega
        obtain ⟨j, hj, h5, h6⟩ := key q hpq (Nat.le_refl _) (by omega)
        rw [vB_const (B.take k) (Y.getD j 0) (Y.getD (j + 1) 0) y (fun b hb => ?_) h5 h6]
        · have := hm j (by omega); omega
        · have hbY := sweep_bd hs b (List.mem_of_mem_take hb)
          obtain ⟨p, hp, e1⟩ := mem_idx hbY.1
          obtain ⟨q, hq, e2⟩ := mem_idx hbY.2.1
          rw [← e1, ← e2]
          have mono : ∀ t, t < Y.length → Y.getD t 0 ≤ Y.getD j 0 ∨ Y.getD (j + 1) 0 ≤ Y.getD t 0 := fun t ht => by
            by_cases c : t ≤ j
            · left
              by_cases e : t = j
              · subst e; exact Int.le_refl _
              · have := Y_mono hs.ys j t (by omega) (by omega); omega
            · right
              by_cases e : t = j + 1
              · subst e; exact Int.le_refl _
              · have := Y_mono hs.ys t (j + 1) (by omega) ht; omega
          exact ⟨mono p hp, mono q hq⟩
      · rw [vB_zero (B.take k) y (fun b hb => ?_)]
        · omega
        · by_cases c : y < b.lo
          · exact .inl c
          · right
            by_cases c2 : b.hi ≤ y
            · exact c2
            · exact absurd ⟨b, hb, by omega, by omega⟩ h2
  · by_cases c : m ≤ d
    · rw [show max d m = d by omega]; exact h.2.1
    · rw [show max d m = m by omega]
      exact .inr ⟨_, _, (hx0 _).trans e0⟩
theorem dep_end {l : List Rc} {Y : List Int} {B : List Bd} {d : Int} (hs : IsSweep l Y B) (h : DepI l B B.length d) : IsDepth l d := by
  have hl := hs.perm.length_eq
  rw [bds_length] at hl
  by_cases h0 : 0 < B.length
  · have hall : ∀ x y, cov l x y ≤ d := fun x y => by
      by_cases c : x < (B.getD (B.length - 1) bd0).x
      · exact h.1 (B.length - 1) (by omega) x y c
      · rw [cov_none l x y (fun r hr => by
          have := sweep_last hs r hr
          cases e : inRc r x y with
          | false => rfl
          | true => have := (inRc_iff _ _ _).1 e; omega)]
        exact h.2.2
    refine ⟨hall, ?_⟩
    rcases h.2.1 with e | e
    · refine ⟨(B.getD (B.length - 1) bd0).x, 0, ?_⟩
      have := hall (B.getD (B.length - 1) bd0).x 0
      have := cov_nonneg l (B.getD (B.length - 1) bd0).x 0
      omega
    · exact e
  · have : l = [] := List.length_eq_zero_iff.1 (by omega)
    subst this
    have hd0 : d = 0 := by
      rcases h.2.1 with e | ⟨x, y, e⟩
      · exact e
      · exact e.symm
    subst hd0
    exact ⟨fun x y => Int.le_refl _, 0, 0, rfl⟩
/-- What two have together. -/
def meetR (r s : Rc) : Rc := ⟨max r.x0 s.x0, max r.y0 s.y0, min r.x1 s.x1, min r.y1 s.y1⟩
def okR (r : Rc) : Prop := r.x0 ≤ r.x1 ∧ r.y0 ≤ r.y1
theorem meet_in (r s : Rc) (x y : Int) : inRc (meetR r s) x y = true ↔ inRc r x y = true ∧ inRc s x y = true := by
  rw [inRc_iff, inRc_iff, inRc_iff]
  unfold meetR
  dsimp only
  omega
theorem not_ok (r : Rc) (h : ¬ okR r) (x y : Int) : inRc r x y = false := by
  cases e : inRc r x y with
  | false => rfl
  | true => have := (inRc_iff _ _ _).1 e; unfold okR at h; omega
/-- Helly, of rectangles. -/
theorem helly_rects {l : List Rc} (hl : l ≠ []) (hok : ∀ r ∈ l, okR r) (h : ∀ r ∈ l, ∀ s ∈ l, okR (meetR r s)) : ∃ x y, ∀ r ∈ l, inRc r x y = true := by
  have mx : ∀ (f : Rc → Int) (m : List Rc), m ≠ [] → ∃ r ∈ m, ∀ s ∈ m, f s ≤ f r := by
    intro f m
    induction m with
    | nil => intro h; exact absurd rfl h
    | cons a m ih =>
      intro _
      by_cases e : m = []
      · subst e
        exact ⟨a, List.mem_cons_self, fun s hs => by rw [List.mem_singleton.1 hs]; exact Int.le_refl _⟩
      · obtain ⟨r, hr, h1⟩ := ih e
        by_cases c : f a ≤ f r
        · refine ⟨r, List.mem_cons_of_mem _ hr, fun s hs => ?_⟩
          rcases List.mem_cons.1 hs with rfl | hs
          · exact c
          · exact h1 s hs
        · refine ⟨a, List.mem_cons_self, fun s hs => ?_⟩
          rcases List.mem_cons.1 hs with rfl | hs
          · exact Int.le_refl _
          · have := h1 s hs; omega
  obtain ⟨p, hp, h1⟩ := mx (·.x0) l hl
  obtain ⟨q, hq, h2⟩ := mx (·.y0) l hl
  refine ⟨p.x0, q.y0, fun r hr => ?_⟩
  rw [inRc_iff]
  have a1 := h1 r hr
  have a2 := h2 r hr
  have a3 := h p hp r hr
  have a4 := h q hq r hr
  unfold okR meetR at a3 a4
  dsimp only at a3 a4
  omega
theorem tot_congr {l m : List Rc} (lo : Int) (n : Nat) (h : ∀ x y, 0 < cov l x y ↔ 0 < cov m x y) : tot l lo n = tot m lo n := by
  unfold tot colF
  refine sumN_congr n (fun i _ => sumN_congr n (fun j _ => ?_))
  by_cases q : 0 < cov l (lo + i) (lo + j)
  · rw [if_pos q, if_pos ((h _ _).1 q)]
  · rw [if_neg q, if_neg (fun c => q ((h _ _).2 c))]
/-- Of one rectangle, which may be none. -/
def tot1 (r : Rc) (lo : Int) (n : Nat) : Int := tot [r] lo n
theorem cov_one (r : Rc) (x y : Int) : cov [r] x y = if inRc r x y then 1 else 0 := by
  show (if inRc r x y then 1 else 0) + 0 = _
  omega
theorem three (a b c : Rc) (lo : Int) (n : Nat) : tot [a, b, c] lo n = tot1 a lo n + tot1 b lo n + tot1 c lo n - tot1 (meetR a b) lo n - tot1 (meetR a c) lo n - tot1 (meetR b c) lo n + tot1 (meetR (meetR a b) c) lo n := by
  have key : ∀ x y, (if 0 < cov [a, b, c] x y then (1 : Int) else 0) = (if 0 < cov [a] x y then 1 else 0) + (if 0 < cov [b] x y then 1 else 0) + (if 0 < cov [c] x y then 1 else 0) - (if 0 < cov [meetR a b] x y then 1 else 0) - (if 0 < cov [meetR a c] x y then 1 else 0) - (if 0 < cov [meetR b c] x y then 1 else 0) + (if 0 < cov [meetR (meetR a b) c] x y then 1 else 0) := by
    intro x y
    have e3 : cov [a, b, c] x y = (if inRc a x y then 1 else 0) + ((if inRc b x y then 1 else 0) + ((if inRc c x y then 1 else 0) + 0)) := rfl
    have m1 := meet_in a b x y
    have m2 := meet_in a c x y
    have m3 := meet_in b c x y
    have m4 := meet_in (meetR a b) c x y
    rw [m1] at m4
    rw [e3, cov_one, cov_one, cov_one, cov_one, cov_one, cov_one, cov_one]
    generalize inRc (meetR a b) x y = u1 at *
    generalize inRc (meetR a c) x y = u2 at *
    generalize inRc (meetR b c) x y = u3 at *
    generalize inRc (meetR (meetR a b) c) x y = u4 at *
    generalize inRc a x y = p at *
    generalize inRc b x y = q at *
    generalize inRc c x y = r at *
    have f1 : u1 = (p && q) := by rw [Bool.eq_iff_iff, m1, Bool.and_eq_true]
    have f2 : u2 = (p && r) := by rw [Bool.eq_iff_iff, m2, Bool.and_eq_true]
    have f3 : u3 = (q && r) := by rw [Bool.eq_iff_iff, m3, Bool.and_eq_true]
    have f4 : u4 = ((p && q) && r) := by rw [Bool.eq_iff_iff, m4, Bool.and_eq_true, Bool.and_eq_true]
    rw [f1, f2, f3, f4]
    clear m1 m2 m3 m4 f1 f2 f3 f4 e3
    revert p q r
    decide
  unfold tot1 tot colF
  rw [← sumN_add, ← sumN_add, ← sumN_sub, ← sumN_sub, ← sumN_sub, ← sumN_add]
  refine sumN_congr n (fun i _ => ?_)
  rw [← sumN_add, ← sumN_add, ← sumN_sub, ← sumN_sub, ← sumN_sub, ← sumN_add]
  exact sumN_congr n (fun j _ => key _ _)

end Go.Proofs.Ytlmdlholmlbcbaa.Pick

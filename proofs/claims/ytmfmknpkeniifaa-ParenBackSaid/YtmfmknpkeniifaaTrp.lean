/- Trees as brackets: the plain facts. -/
import Derived.Test.YtmfmknpkeniifaaParP
namespace Go.Proofs.Ytmfmknpkeniifaa
set_option linter.unusedVariables false

/-- What stands open and what was written, behind some parents. -/
def posJ (o : List Nat) (p : Int) : Nat := if p < 0 then 0 else o.idxOf p.toNat + 1
def txStep (s : List Bool × List Nat × Nat) (p : Int) : List Bool × List Nat × Nat :=
  (s.1 ++ List.replicate (s.2.1.length - posJ s.2.1 p) false ++ [true], s.2.1.take (posJ s.2.1 p) ++ [s.2.2], s.2.2 + 1)
def txF (t : List Int) : List Bool × List Nat × Nat := t.foldl txStep ([], [], 0)
theorem txF_snoc (t : List Int) (p : Int) : txF (t ++ [p]) = txStep (txF t) p := by unfold txF; rw [List.foldl_append]; rfl
theorem txF_cnt (t : List Int) : (txF t).2.2 = t.length := by
  have : ∀ (t : List Int) s, (t.foldl txStep s).2.2 = s.2.2 + t.length := by
    intro t
    induction t with
    | nil => intro s; rfl
    | cons p t ih => intro s; rw [List.foldl_cons, ih]; simp [txStep]; omega
  rw [txF, this]; simp
theorem txF_succ (t : List Int) (k : Nat) (h : k < t.length) : txF (t.take (k + 1)) = txStep (txF (t.take k)) (t.getD k 0) := by
  rw [List.take_succ_eq_append_getElem h, txF_snoc, getD_at _ _ h]
/-- Parents that may be: -1, or one that stands open. -/
def GoodT (t : List Int) : Prop := ∀ i, i < t.length → t.getD i 0 = -1 ∨ ∃ q : Nat, t.getD i 0 = (q : Int) ∧ q ∈ (txF (t.take i)).2.1
theorem good_snoc {t : List Int} {p : Int} (h : GoodT t) (hp : p = -1 ∨ ∃ q : Nat, p = (q : Int) ∧ q ∈ (txF t).2.1) : GoodT (t ++ [p]) := by
  intro i hi
  rw [List.length_append, List.length_singleton] at hi
  by_cases hlt : i < t.length
  · have := h i hlt
    rw [List.take_append_of_le_length (by omega)]
    have e : (t ++ [p]).getD i 0 = t.getD i 0 := by rw [getD_at _ _ (by simp; omega), getD_at _ _ hlt, List.getElem_append_left hlt]
    rw [e]; exact this
  · obtain rfl : i = t.length := by omega
    have e : (t ++ [p]).getD t.length 0 = p := by rw [getD_at _ _ (by simp)]; simp
    rw [e, List.take_append_of_le_length (Nat.le_refl _), List.take_length]; exact hp
theorem posJ_neg (o : List Nat) : posJ o (-1) = 0 := by unfold posJ; rfl
theorem posJ_nat (o : List Nat) (q : Nat) : posJ o (q : Int) = o.idxOf q + 1 := by unfold posJ; rw [if_neg (by omega)]; simp
theorem txF_le (t : List Int) (h : GoodT t) : ∀ k, k ≤ t.length → (txF (t.take k)).2.1.length ≤ k ∧ (txF (t.take k)).1.length + (txF (t.take k)).2.1.length = 2 * k := by
  intro k
  induction k with
  | zero => intro _; simp [txF]
  | succ k ih =>
    intro hk
    obtain ⟨h1, h2⟩ := ih (by omega)
    rw [txF_succ t k (by omega)]
    have hp : posJ (txF (t.take k)).2.1 (t.getD k 0) ≤ (txF (t.take k)).2.1.length := by
      rcases h k (by omega) with e | ⟨q, e, hq⟩
      · rw [e, posJ_neg]; omega
      · rw [e, posJ_nat]
        have := List.idxOf_lt_length_of_mem hq
        omega
    simp only [txStep, List.length_append, List.length_replicate, List.length_take, List.length_singleton]
    omega
/-- What Tree holds behind a first part of the brackets: the parents, and what stands open. -/
structure TrInv (b : List Bool) (k : Nat) (t : List Int) (o : List Nat) : Prop where
  good : GoodT t
  pre : (txF t).2.1.take o.length = o
  len : o.length ≤ (txF t).2.1.length
  nd : (txF t).2.1.Nodup
  lt : ∀ x ∈ (txF t).2.1, x < t.length
  txt : b.take k = (txF t).1 ++ List.replicate ((txF t).2.1.length - o.length) false
  dep : (o.length : Int) = ht b k
  few : t.length ≤ k
theorem trInv_zero (b : List Bool) : TrInv b 0 [] [] := ⟨fun i hi => by simp at hi, rfl, by simp [txF], by simp [txF], by simp [txF], by simp [txF], by rw [ht_zero]; rfl, by simp⟩
theorem trInv_open {b : List Bool} {k : Nat} {t : List Int} {o : List Nat} (h : TrInv b k t o) (hk : k < b.length) (hb : b[k] = true) (p : Int) (hp : (o = [] ∧ p = -1) ∨ (0 < o.length ∧ p = ((o.getD (o.length - 1) 0 : Nat) : Int))) : TrInv b (k + 1) (t ++ [p]) (o ++ [t.length]) := by
  have hj : posJ (txF t).2.1 p = o.length ∧ (p = -1 ∨ ∃ q : Nat, p = (q : Int) ∧ q ∈ (txF t).2.1) := by
    rcases hp with ⟨rfl, rfl⟩ | ⟨h0, rfl⟩
    · exact ⟨posJ_neg _, .inl rfl⟩
    · have hlen := h.len
      have e1 : o.getD (o.length - 1) 0 = (txF t).2.1[o.length - 1]'(by omega) := by
        rw [getD_at _ _ (by omega)]
        have := List.getElem_take (xs := (txF t).2.1) (j := o.length) (i := o.length - 1) (h := by rw [h.pre]; omega)
        rw [← this]
        congr 1
        exact h.pre.symm
      refine ⟨?_, .inr ⟨_, rfl, by rw [e1]; exact List.getElem_mem _⟩⟩
      rw [posJ_nat, e1, h.nd.idxOf_getElem]
      omega
  have e : txF (t ++ [p]) = ((txF t).1 ++ List.replicate ((txF t).2.1.length - o.length) false ++ [true], o ++ [t.length], t.length + 1) := by
    rw [txF_snoc]
    simp only [txStep, hj.1, h.pre, txF_cnt]
  refine ⟨good_snoc h.good hj.2, ?_, ?_, ?_, ?_, ?_, ?_, ?_⟩
  · rw [e]; exact List.take_of_length_le (by simp)
  · rw [e]; exact Nat.le_refl _
  · rw [e]
    refine List.nodup_append.2 ⟨h.pre ▸ (List.take_sublist _ _).nodup h.nd, by simp, fun x hx y hy => ?_⟩
    have hx2 : x ∈ (txF t).2.1 := List.mem_of_mem_take (h.pre ▸ hx)
    have := h.lt x hx2
    simp at hy; omega
  · rw [e]
    intro x hx
    rcases List.mem_append.1 hx with hx | hx
    · have := h.lt x (List.mem_of_mem_take (h.pre ▸ hx)); simp; omega
    · simp at hx; simp; omega
  · rw [e, List.take_succ_eq_append_getElem hk, h.txt, hb]; simp
  · rw [ht_succ b k hk, hb, ← h.dep]; simp
  · have := h.few; simp; omega
theorem trInv_shut {b : List Bool} {k : Nat} {t : List Int} {o : List Nat} (h : TrInv b k t o) (hk : k < b.length) (hb : b[k] = false) (h0 : 0 < o.length) : TrInv b (k + 1) t (o.take (o.length - 1)) := by
  have hl : (o.take (o.length - 1)).length = o.length - 1 := by rw [List.length_take]; omega
  have hlen := h.len
  refine ⟨h.good, ?_, by rw [hl]; omega, h.nd, h.lt, ?_, ?_, by have := h.few; omega⟩
  · rw [hl]
    have := congrArg (List.take (o.length - 1)) h.pre
    rwa [List.take_take, Nat.min_eq_left (by omega)] at this
  · rw [hl, List.take_succ_eq_append_getElem hk, h.txt, hb, List.append_assoc]
    congr 1
    rw [show (txF t).2.1.length - (o.length - 1) = ((txF t).2.1.length - o.length) + 1 by omega, List.replicate_succ']
  · rw [ht_succ b k hk, hb, ← h.dep, hl]; simp; omega
/-- The brackets come back. -/
theorem trInv_end {b : List Bool} {t : List Int} {o : List Nat} (h : TrInv b b.length t o) (hb : Bal b) : (txF t).1 ++ List.replicate (txF t).2.1.length false = b ∧ t.length * 2 = b.length := by
  have hd := h.dep
  rw [hb.2] at hd
  obtain rfl : o = [] := List.length_eq_zero_iff.1 (by omega)
  have ht := h.txt
  rw [List.take_length] at ht
  refine ⟨by simpa using ht.symm, ?_⟩
  have h2 := (txF_le t h.good t.length (Nat.le_refl _)).2
  rw [List.take_length] at h2
  have := congrArg List.length ht
  simp at this
  omega
theorem bal_open {b : List Bool} {k : Nat} {t : List Int} {o : List Nat} (h : TrInv b k t o) (hk : k < b.length) (hb : b[k] = false) (hB : Bal b) : 0 < o.length := by
  have h1 := hB.1 (k + 1) (by omega)
  rw [ht_succ b k hk, hb, ← h.dep] at h1
  simp at h1
  omega

end Go.Proofs.Ytmfmknpkeniifaa

/- Plain facts on piles: places one on the other, that fall. -/
import Derived.Test.YtmfmknpkeniifaaTixP
namespace Go.Proofs.Ytmfmknpkeniifaa
set_option linter.unusedVariables false

/-- The place that lies on top of a pile. -/
def tip (p : List Nat) : Nat := p.getLastD 0
theorem tip_snoc (p : List Nat) (x : Nat) : tip (p ++ [x]) = x := by simp [tip]
theorem tip_mem {p : List Nat} (h : p ≠ []) : tip p ∈ p := by
  unfold tip
  rw [List.getLastD_eq_getLast?, List.getLast?_eq_some_getLast h]
  exact List.getLast_mem h
theorem tip_get {p : List Nat} (h : p ≠ []) : p[p.length - 1]'(by have := List.length_pos_iff.2 h; omega) = tip p := by
  unfold tip
  rw [List.getLastD_eq_getLast?, List.getLast?_eq_some_getLast h, Option.getD_some, List.getLast_eq_getElem]
/-- The first pile whose top is not below v. -/
def slot (l : List Int) (v : Int) (ps : List (List Nat)) : Nat := ps.findIdx fun p => decide (v ≤ at0 l (tip p))
theorem slot_le (l : List Int) (v : Int) (ps : List (List Nat)) : slot l v ps ≤ ps.length := List.findIdx_le_length
theorem findIdx_uniq {α : Type _} (f : α → Bool) (l : List α) (k : Nat) (hk : k ≤ l.length) (h1 : ∀ i (hi : i < l.length), i < k → f l[i] = false) (h2 : ∀ h : k < l.length, f l[k] = true) : l.findIdx f = k := by
  induction l generalizing k with
  | nil => simp at hk; simp [hk]
  | cons x l ih =>
    cases k with
    | zero =>
      have := h2 (by simp)
      rw [List.findIdx_cons]
      simp only [List.getElem_cons_zero] at this
      simp [this]
    | succ k =>
      have h0 := h1 0 (by simp) (by omega)
      simp only [List.getElem_cons_zero] at h0
      rw [List.findIdx_cons, h0]
      simp only [cond_false]
      rw [ih k (by simpa using hk) (fun i hi hik => h1 (i + 1) (by simpa using hi) (by omega)) (fun h => h2 (by simpa using h))]
def putP (ps : List (List Nat)) (k i : Nat) : List (List Nat) := if k < ps.length then ps.set k (ps.getD k [] ++ [i]) else ps ++ [[i]]
def pilesK (l : List Int) : Nat → List (List Nat)
  | 0 => []
  | i + 1 => putP (pilesK l i) (slot l (at0 l i) (pilesK l i)) i
/-- y stands just under x, in the pile ahead of its own. -/
def Back (l : List Int) (p : List Nat) (x : Nat) : Prop := ∃ j, ∃ h : j < p.length, p[j] < x ∧ at0 l p[j] < at0 l x ∧ ∀ i (hi : i < p.length), j < i → x < p[i]
structure PInv (l : List Int) (i : Nat) (ps : List (List Nat)) : Prop where
  ne : ∀ p ∈ ps, p ≠ []
  lt : ∀ p ∈ ps, ∀ x ∈ p, x < i
  inc : ∀ p ∈ ps, p.Pairwise (· < ·)
  fall : ∀ p ∈ ps, p.Pairwise fun x y => at0 l y ≤ at0 l x
  tops : ps.Pairwise fun p q => at0 l (tip p) < at0 l (tip q)
  sum : (ps.map List.length).sum = i
  all : ∀ x, x < i → ∃ p ∈ ps, x ∈ p
  back : ∀ k (h : k + 1 < ps.length), ∀ x ∈ ps[k + 1], Back l ps[k] x
theorem PInv.nil (l : List Int) : PInv l 0 [] := ⟨by simp, by simp, by simp, by simp, .nil, rfl, fun x h => by omega, fun k h => by simp at h⟩
theorem sum_set {ps : List (List Nat)} {k : Nat} (h : k < ps.length) (q : List Nat) : ((ps.set k q).map List.length).sum + ps[k].length = (ps.map List.length).sum + q.length := by
  induction ps generalizing k with
  | nil => simp at h
  | cons p ps ih =>
    cases k with
    | zero => simp; omega
    | succ k =>
      have := ih (k := k) (by simpa using h)
      simp only [List.set_cons_succ, List.map_cons, List.sum_cons, List.getElem_cons_succ] at *
      omega
theorem slot_lo {l : List Int} {v : Int} {ps : List (List Nat)} {j : Nat} (hj : j < slot l v ps) (hl : j < ps.length) : at0 l (tip ps[j]) < v := by
  have := List.not_of_lt_findIdx (p := fun p => decide (v ≤ at0 l (tip p))) hj
  simp at this
  exact this
theorem slot_at {l : List Int} {v : Int} {ps : List (List Nat)} (hl : slot l v ps < ps.length) : v ≤ at0 l (tip ps[slot l v ps]) := by
  have := List.findIdx_getElem (p := fun p => decide (v ≤ at0 l (tip p))) (w := hl)
  exact of_decide_eq_true this
theorem back_tip {l : List Int} {p : List Nat} {i : Nat} (hne : p ≠ []) (hinc : p.Pairwise (· < ·)) (hlt : ∀ x ∈ p, x < i) (hv : at0 l (tip p) < at0 l i) : Back l p i := by
  have hpos := List.length_pos_iff.2 hne
  refine ⟨p.length - 1, by omega, ?_, ?_, fun j hj hlt => by omega⟩
  · exact hlt _ (List.getElem_mem _)
  · rw [tip_get hne]; exact hv
theorem back_snoc {l : List Int} {p : List Nat} {x i : Nat} (h : Back l p x) (hx : x < i) : Back l (p ++ [i]) x := by
  obtain ⟨j, hj, h1, h2, h3⟩ := h
  refine ⟨j, by simp; omega, by rw [List.getElem_append_left hj]; exact h1, by rw [List.getElem_append_left hj]; exact h2, fun k hk hjk => ?_⟩
  by_cases hkl : k < p.length
  · rw [List.getElem_append_left hkl]; exact h3 k hkl hjk
  · rw [List.getElem_append_right (by omega)]
    simpa using hx
theorem PInv.step {l : List Int} {i : Nat} {ps : List (List Nat)} (h : PInv l i ps) : PInv l (i + 1) (putP ps (slot l (at0 l i) ps) i) := by
  unfold putP
  have hle := slot_le l (at0 l i) ps
  have hlo := fun j (hj : j < slot l (at0 l i) ps) (hl : j < ps.length) => slot_lo hj hl
  have hat := fun hl => slot_at (l := l) (v := at0 l i) (ps := ps) hl
  generalize slot l (at0 l i) ps = k at *
  have htp := List.pairwise_iff_getElem.1 h.tops
  by_cases hk : k < ps.length
  · rw [if_pos hk, getD_at ps [] hk]
    have hkm := List.getElem_mem hk
    have hv := hat hk
    have hne := h.ne _ hkm
    have hmem : ∀ q ∈ ps.set k (ps[k] ++ [i]), q = ps[k] ++ [i] ∨ q ∈ ps := fun q hq => by
      rcases List.mem_or_eq_of_mem_set hq with h1 | h1
      · exact .inr h1
      · exact .inl h1
    refine ⟨fun q hq => ?_, fun q hq x hx => ?_, fun q hq => ?_, fun q hq => ?_, ?_, ?_, fun x hx => ?_, fun j hj x hx => ?_⟩
    · rcases hmem q hq with rfl | hq
      · simp
      · exact h.ne q hq
    · rcases hmem q hq with rfl | hq
      · rcases List.mem_append.1 hx with hx | hx
        · have := h.lt _ hkm x hx; omega
        · rw [List.mem_singleton.1 hx]; omega
      · have := h.lt q hq x hx; omega
    · rcases hmem q hq with rfl | hq
      · exact List.pairwise_append.2 ⟨h.inc _ hkm, by simp, fun a ha b hb => by rw [List.mem_singleton.1 hb]; exact h.lt _ hkm a ha⟩
      · exact h.inc q hq
    · rcases hmem q hq with rfl | hq
      · refine List.pairwise_append.2 ⟨h.fall _ hkm, by simp, fun a ha b hb => ?_⟩
        rw [List.mem_singleton.1 hb]
        -- the top is the least of the pile
        have hmin : at0 l (tip ps[k]) ≤ at0 l a := by
          obtain ⟨j, hj, rfl⟩ := List.mem_iff_getElem.1 ha
          rw [← tip_get hne]
          by_cases e : j = ps[k].length - 1
          · subst e; exact Int.le_refl _
          · exact List.pairwise_iff_getElem.1 (h.fall _ hkm) j _ hj (by omega) (by omega)
        omega
      · exact h.fall q hq
    · refine List.pairwise_iff_getElem.2 fun a b ha hb hab => ?_
      rw [List.length_set] at ha hb
      rw [List.getElem_set, List.getElem_set]
      have h0 := htp a b ha hb hab
      by_cases e1 : k = a
      · subst e1
        rw [if_pos rfl, if_neg (by omega), tip_snoc]
        omega
      · by_cases e2 : k = b
        · subst e2
          rw [if_neg e1, if_pos rfl, tip_snoc]
          exact hlo a hab ha
        · rw [if_neg e1, if_neg e2]; exact h0
    · have := sum_set hk (ps[k] ++ [i])
      have := h.sum
      simp only [List.length_append, List.length_singleton] at *
      omega
    · by_cases hxi : x = i
      · subst hxi
        exact ⟨ps[k] ++ [x], List.mem_iff_getElem.2 ⟨k, by simpa using hk, by simp⟩, by simp⟩
      · obtain ⟨p, hp, hxp⟩ := h.all x (by omega)
        obtain ⟨j, hj, rfl⟩ := List.mem_iff_getElem.1 hp
        by_cases e : k = j
        · subst e
          exact ⟨ps[k] ++ [i], List.mem_iff_getElem.2 ⟨k, by simpa using hk, by simp⟩, by simp [hxp]⟩
        · exact ⟨ps[j], List.mem_iff_getElem.2 ⟨j, by simpa using hj, by rw [List.getElem_set, if_neg e]⟩, hxp⟩
    · rw [List.length_set] at hj
      rw [List.getElem_set] at hx
      rw [List.getElem_set]
      by_cases e1 : k = j + 1
      · subst e1
        rw [if_pos rfl] at hx
        rw [if_neg (by omega)]
        rcases List.mem_append.1 hx with hx | hx
        · exact h.back j hk x hx
        · rw [List.mem_singleton.1 hx]
          have hjm := List.getElem_mem (show j < ps.length by omega)
          exact back_tip (h.ne _ hjm) (h.inc _ hjm) (h.lt _ hjm) (hlo j (by omega) (by omega))
      · rw [if_neg e1] at hx
        have hb := h.back j hj x hx
        by_cases e2 : k = j
        · subst e2
          rw [if_pos rfl]
          exact back_snoc hb (h.lt _ (List.getElem_mem hj) x hx)
        · rw [if_neg e2]; exact hb
  · rw [if_neg hk]
    have hkl : k = ps.length := by omega
    subst hkl
    refine ⟨fun q hq => ?_, fun q hq x hx => ?_, fun q hq => ?_, fun q hq => ?_, ?_, ?_, fun x hx => ?_, fun j hj x hx => ?_⟩
    · rcases List.mem_append.1 hq with hq | hq
      · exact h.ne q hq
      · rw [List.mem_singleton.1 hq]; simp
    · rcases List.mem_append.1 hq with hq | hq
      · have := h.lt q hq x hx; omega
      · rw [List.mem_singleton.1 hq] at hx; rw [List.mem_singleton.1 hx]; omega
    · rcases List.mem_append.1 hq with hq | hq
      · exact h.inc q hq
      · rw [List.mem_singleton.1 hq]; simp
    · rcases List.mem_append.1 hq with hq | hq
      · exact h.fall q hq
      · rw [List.mem_singleton.1 hq]; simp
    · refine List.pairwise_append.2 ⟨h.tops, by simp, fun p hp q hq => ?_⟩
      rw [List.mem_singleton.1 hq]
      obtain ⟨j, hj, rfl⟩ := List.mem_iff_getElem.1 hp
      exact hlo j hj hj
    · have := h.sum
      simp [List.sum_append] at *
      omega
    · by_cases hxi : x = i
      · exact ⟨[i], by simp, by simp [hxi]⟩
      · obtain ⟨p, hp, hxp⟩ := h.all x (by omega)
        exact ⟨p, by simp [hp], hxp⟩
    · rw [List.length_append, List.length_singleton] at hj
      by_cases e : j + 1 < ps.length
      · rw [List.getElem_append_left e] at hx
        rw [List.getElem_append_left (by omega)]
        exact h.back j e x hx
      · rw [List.getElem_append_right (by omega)] at hx
        rw [List.getElem_append_left (by omega)]
        simp at hx
        subst hx
        have hjm := List.getElem_mem (show j < ps.length by omega)
        exact back_tip (h.ne _ hjm) (h.inc _ hjm) (h.lt _ hjm) (hlo j (by omega) (by omega))
theorem piles_inv (l : List Int) (i : Nat) : PInv l i (pilesK l i) := by
  induction i with
  | zero => exact .nil l
  | succ i ih => exact ih.step
theorem pilesK_len (l : List Int) (i : Nat) : (pilesK l i).length ≤ i := by
  induction i with
  | zero => exact Nat.le_refl _
  | succ i ih =>
    simp only [pilesK, putP]
    split <;> simp <;> omega

/-- Places that rise. -/
structure Rises (l : List Int) (r : List Nat) : Prop where
  lt : ∀ x ∈ r, x < l.length
  inc : r.Pairwise (· < ·)
  up : r.Pairwise fun x y => at0 l x < at0 l y
/-- No two places of a rise lie in one pile. -/
theorem rise_once {l : List Int} {r p : List Nat} (hr : Rises l r) (hp : p.Pairwise fun x y => at0 l y ≤ at0 l x) (hi : p.Pairwise (· < ·)) {x y : Nat} (hx : x ∈ r) (hy : y ∈ r) (hxp : x ∈ p) (hyp : y ∈ p) : x = y := by
  have key : ∀ a b, a ∈ r → b ∈ r → a ∈ p → b ∈ p → a < b → False := by
    intro a b ha hb hap hbp hab
    obtain ⟨i, hi1, rfl⟩ := List.mem_iff_getElem.1 ha
    obtain ⟨j, hj1, rfl⟩ := List.mem_iff_getElem.1 hb
    obtain ⟨s, hs1, es⟩ := List.mem_iff_getElem.1 hap
    obtain ⟨t, ht1, et⟩ := List.mem_iff_getElem.1 hbp
    have hij : i < j := by
      rcases Nat.lt_trichotomy i j with h | h | h
      · exact h
      · subst h; omega
      · have := List.pairwise_iff_getElem.1 hr.inc j i hj1 hi1 h; omega
    have h1 := List.pairwise_iff_getElem.1 hr.up i j hi1 hj1 hij
    have hst : s < t := by
      rcases Nat.lt_trichotomy s t with h | h | h
      · exact h
      · subst h; omega
      · have := List.pairwise_iff_getElem.1 hi t s ht1 hs1 h; omega
    have h2 := List.pairwise_iff_getElem.1 hp s t hs1 ht1 hst
    rw [es, et] at h2
    omega
  rcases Nat.lt_trichotomy x y with h | h | h
  · exact (key x y hx hy hxp hyp h).elim
  · exact h
  · exact (key y x hy hx hyp hxp h).elim
theorem rise_len {l : List Int} {r : List Nat} (hr : Rises l r) : r.length ≤ (pilesK l l.length).length := by
  have hI := piles_inv l l.length
  -- the pile in which each place lies
  have hw : ∀ x ∈ r, ∃ k, ∃ h : k < (pilesK l l.length).length, x ∈ (pilesK l l.length)[k] := fun x hx => by
    obtain ⟨p, hp, hxp⟩ := hI.all x (hr.lt x hx)
    obtain ⟨k, hk, rfl⟩ := List.mem_iff_getElem.1 hp
    exact ⟨k, hk, hxp⟩
  generalize pilesK l l.length = ps at *
  let f : Nat → Nat := fun x => ps.findIdx fun p => decide (x ∈ p)
  have hf : ∀ x ∈ r, ∃ h : f x < ps.length, x ∈ ps[f x] := fun x hx => by
    obtain ⟨k, hk, hxk⟩ := hw x hx
    have hlt : f x < ps.length := List.findIdx_lt_length_of_exists ⟨ps[k], List.getElem_mem hk, by simpa using hxk⟩
    refine ⟨hlt, ?_⟩
    have := List.findIdx_getElem (p := fun p => decide (x ∈ p)) (w := hlt)
    simpa using this
  have hnd : (r.map f).Nodup := by
    have hrn : r.Pairwise (· ≠ ·) := hr.inc.imp (fun h => Nat.ne_of_lt h)
    refine List.pairwise_map.2 (List.Pairwise.imp_of_mem ?_ hrn)
    intro a b ha hb hne he
    obtain ⟨h1, h2⟩ := hf a ha
    obtain ⟨h3, h4⟩ := hf b hb
    have h4' : b ∈ ps[f a] := by simpa [he] using h4
    exact hne (rise_once hr (hI.fall _ (List.getElem_mem h1)) (hI.inc _ (List.getElem_mem h1)) ha hb h2 h4')
  have hsub : r.map f ⊆ List.range ps.length := fun k hk => by
    obtain ⟨x, hx, rfl⟩ := List.mem_map.1 hk
    exact List.mem_range.2 (hf x hx).1
  have := hnd.length_le_of_subset hsub
  simpa using this

end Go.Proofs.Ytmfmknpkeniifaa

/- Plain laws on orders: they are a group. -/
import Derived.Test.YtnieacfleabikaaPermD
namespace Go.Proofs.Ytnieacfleabikaa
set_option linter.unusedVariables false

theorem Order.get {l : List Int} (h : Order l) (i : Nat) (hi : i < l.length) : ∃ j : Nat, l[i] = (j : Int) ∧ j < l.length := by
  have := h.2 l[i] (List.getElem_mem hi)
  exact ⟨l[i].toNat, by omega, by omega⟩
theorem Order.inj {l : List Int} (h : Order l) {i j : Nat} (hi : i < l.length) (hj : j < l.length) (he : l[i] = l[j]) : i = j := by
  rcases Nat.lt_trichotomy i j with hl | hl | hl
  · exact absurd he (List.pairwise_iff_getElem.1 h.1 i j hi hj hl)
  · exact hl
  · exact absurd he.symm (List.pairwise_iff_getElem.1 h.1 j i hj hi hl)
theorem order_of {l : List Int} (h : ∀ i (hi : i < l.length), 0 ≤ l[i] ∧ l[i] < l.length) (hinj : ∀ i j (hi : i < l.length) (hj : j < l.length), l[i] = l[j] → i = j) : Order l := by
  refine ⟨List.pairwise_iff_getElem.2 fun i j hi hj hl he => ?_, fun x hx => ?_⟩
  · have := hinj i j hi hj he; omega
  · obtain ⟨i, hi, rfl⟩ := List.mem_iff_getElem.1 hx
    exact h i hi

theorem iota_get (n i : Nat) (h : i < (iota n).length) : (iota n)[i] = (i : Int) := by simp [iota]
theorem iota_order (n : Nat) : Order (iota n) := by
  refine order_of (fun i hi => ?_) (fun i j hi hj he => ?_)
  · rw [iota_get, iota_length]; rw [iota_length] at hi; omega
  · rw [iota_get, iota_get] at he; omega

/-- Every number is there. -/
theorem Order.onto {l : List Int} (h : Order l) (j : Nat) (hj : j < l.length) : ∃ i, ∃ hi : i < l.length, l[i] = (j : Int) := by
  apply Classical.byContradiction
  intro hno
  have hsub : (j : Int) :: l ⊆ iota l.length := by
    intro x hx
    rw [List.mem_cons] at hx
    rcases hx with rfl | hx
    · exact List.mem_iff_getElem.2 ⟨j, by rw [iota_length]; exact hj, iota_get _ _ _⟩
    · obtain ⟨i, hi, rfl⟩ := List.mem_iff_getElem.1 hx
      obtain ⟨k, hk, hkl⟩ := h.get i hi
      exact List.mem_iff_getElem.2 ⟨k, by rw [iota_length]; exact hkl, by rw [iota_get, hk]⟩
  have hnd : ((j : Int) :: l).Nodup := by
    refine List.nodup_cons.2 ⟨fun hm => ?_, h.1⟩
    obtain ⟨i, hi, he⟩ := List.mem_iff_getElem.1 hm
    exact hno ⟨i, hi, he⟩
  have := hnd.length_le_of_subset hsub
  rw [iota_length, List.length_cons] at this
  omega

theorem swapL_get? (o : List Int) (i k j : Nat) (hi : i < o.length) (hk : k < o.length) :
    (swapL o i k)[j]? = if j = k then some o[i] else if j = i then some o[k] else o[j]? := by
  have e1 : o.getD k 0 = o[k] := by simp [hk]
  have e2 : o.getD i 0 = o[i] := by simp [hi]
  rw [swapL, e1, e2, List.getElem?_set, List.length_set, List.getElem?_set]
  by_cases h1 : j = k
  · rw [if_pos h1, if_pos h1.symm, if_pos (by omega)]
  · rw [if_neg h1, if_neg (fun h => h1 h.symm)]
    by_cases h2 : j = i
    · rw [if_pos h2, if_pos h2.symm, if_pos (by omega)]
    · rw [if_neg h2, if_neg (fun h => h2 h.symm)]
theorem swapL_get (o : List Int) (i k j : Nat) (hi : i < o.length) (hk : k < o.length) (hj : j < (swapL o i k).length) (hj' : j < o.length) :
    (swapL o i k)[j] = if j = k then o[i] else if j = i then o[k] else o[j] := by
  have h := swapL_get? o i k j hi hk
  rw [List.getElem?_eq_getElem hj] at h
  by_cases h1 : j = k
  · rw [if_pos h1] at h ⊢; simpa using h
  · rw [if_neg h1] at h ⊢
    by_cases h2 : j = i
    · rw [if_pos h2] at h ⊢; simpa using h
    · rw [if_neg h2, List.getElem?_eq_getElem hj'] at h; rw [if_neg h2]; simpa using h

theorem swapL_order {o : List Int} (h : Order o) (i k : Nat) (hi : i < o.length) (hk : k < o.length) : Order (swapL o i k) := by
  have hl := swapL_length o i k
  refine order_of (fun j hj => ?_) (fun a b ha hb he => ?_)
  · rw [swapL_get o i k j hi hk hj (by omega), show ((swapL o i k).length : Int) = o.length by rw [hl]]
    have := fun a ha => h.2 o[a] (List.getElem_mem ha)
    split
    · exact this i hi
    · split
      · exact this k hk
      · exact this j (by omega)
  · rw [swapL_get o i k a hi hk ha (by omega), swapL_get o i k b hi hk hb (by omega)] at he
    have inj := fun {a b} (ha : a < o.length) (hb : b < o.length) (he : o[a] = o[b]) => h.inj ha hb he
    rw [hl] at ha hb
    by_cases a1 : a = k
    · rw [if_pos a1] at he
      by_cases b1 : b = k
      · omega
      · rw [if_neg b1] at he
        by_cases b2 : b = i
        · rw [if_pos b2] at he; have := inj hi hk he; omega
        · rw [if_neg b2] at he; have := inj hi hb he; omega
    · rw [if_neg a1] at he
      by_cases a2 : a = i
      · rw [if_pos a2] at he
        by_cases b1 : b = k
        · rw [if_pos b1] at he; have := inj hk hi he; omega
        · rw [if_neg b1] at he
          by_cases b2 : b = i
          · omega
          · rw [if_neg b2] at he; have := inj hk hb he; omega
      · rw [if_neg a2] at he
        by_cases b1 : b = k
        · rw [if_pos b1] at he; have := inj ha hi he; omega
        · rw [if_neg b1] at he
          by_cases b2 : b = i
          · rw [if_pos b2] at he; have := inj ha hk he; omega
          · rw [if_neg b2] at he; exact inj ha hb he

theorem shuf_order (l : List Int) (n i : Nat) (h : i ≤ n) : Order (shuf l n i) := by
  induction i with
  | zero => exact iota_order n
  | succ i ih =>
    have hK := shufK_bd l n i (by omega)
    exact swapL_order (ih (by omega)) _ _ (by rw [shuf_length]; omega) (by rw [shuf_length]; omega)

theorem swapL_self (o : List Int) (i : Nat) : swapL o i i = o := by
  by_cases h : i < o.length
  · simp [swapL, h]
  · rw [swapL, List.set_eq_of_length_le (by simp; omega), List.set_eq_of_length_le (by omega)]
theorem shuf_zero (m n i : Nat) (h : i ≤ n) (hm : n ≤ m) : shuf (List.replicate m 0) n i = iota n := by
  induction i with
  | zero => rfl
  | succ i ih =>
    have hk : shufK (List.replicate m 0) n i = i := by
      have h0 : (if i < (List.replicate m (0 : Int)).length then (List.replicate m (0 : Int)).getD i 0 else (i : Int) * 7) = 0 := by
        rw [if_pos (by simp; omega)]
        rw [List.getD_eq_getElem?_getD, List.getElem?_replicate]
        split <;> rfl
      unfold shufK
      rw [h0]
      simp [pick]
    rw [shuf, hk, ih (by omega), swapL_self]

theorem thenL_get (p q : List Int) (hp : Order p) (hq : q.length = p.length) (i : Nat) (hi : i < (thenL p q).length) : ∃ j, ∃ hj : j < q.length, p[i]'(by rwa [thenL_length] at hi) = (j : Int) ∧ (thenL p q)[i] = q[j] := by
  rw [thenL_length] at hi
  obtain ⟨j, hj, hjl⟩ := hp.get i hi
  refine ⟨j, by omega, hj, ?_⟩
  simp [thenL, hj, show j < q.length by omega]

theorem thenL_order {p q : List Int} (hp : Order p) (hq : Order q) (h : q.length = p.length) : Order (thenL p q) := by
  refine order_of (fun i hi => ?_) (fun a b ha hb he => ?_)
  · obtain ⟨j, hj, _, he⟩ := thenL_get p q hp h i hi
    rw [he, thenL_length, ← h]
    exact hq.2 _ (List.getElem_mem hj)
  · obtain ⟨j, hj, h1, h2⟩ := thenL_get p q hp h a ha
    obtain ⟨k, hk, h3, h4⟩ := thenL_get p q hp h b hb
    rw [h2, h4] at he
    have hjk := hq.inj hj hk he
    rw [thenL_length] at ha hb
    exact hp.inj ha hb (by rw [h1, h3, hjk])

theorem thenL_assoc (p q r : List Int) (hp : Order p) (hq : Order q) (h1 : q.length = p.length) (h2 : r.length = p.length) : thenL (thenL p q) r = thenL p (thenL q r) := by
  refine List.ext_getElem (by simp [thenL]) fun i hi hi2 => ?_
  obtain ⟨j, hj, e1, e2⟩ := thenL_get (thenL p q) r (thenL_order hp hq h1) (by rw [thenL_length]; exact h2) i hi
  obtain ⟨k, hk, e3, e4⟩ := thenL_get p (thenL q r) hp (by rw [thenL_length]; exact h1) i hi2
  rw [thenL_length] at hk
  obtain ⟨k', hk', e5, e6⟩ := thenL_get p q hp h1 i (by rwa [thenL_length] at hi)
  rw [e2, e4]
  have : k = k' := by rw [e3] at e5; omega
  subst this
  obtain ⟨m, hm, e7, e8⟩ := thenL_get q r hq (by omega) k (by rw [thenL_length]; omega)
  rw [e8]
  have : (j : Int) = m := by rw [← e1, e6, e7]
  have : j = m := by omega
  subst this
  rfl

theorem invK_get {p : List Int} (hp : Order p) (k : Nat) (hk : k ≤ p.length) : ∀ i (hi : i < k) (j : Nat) (_ : p[i]'(by omega) = (j : Int)), (invK p k)[j]? = some (i : Int) := by
  induction k with
  | zero => intro i hi; omega
  | succ k ih =>
    intro i hi j hj
    obtain ⟨m, hm, hml⟩ := hp.get k (by omega)
    have hpk : (p.getD k 0).toNat = m := by
      rw [List.getD_eq_getElem?_getD, List.getElem?_eq_getElem (by omega), Option.getD_some, hm]; simp
    rw [invK, hpk, List.getElem?_set]
    by_cases h : i = k
    · subst h
      have : j = m := by rw [hj] at hm; omega
      subst this
      rw [if_pos rfl, if_pos (by rw [invK_length]; exact hml)]
    · have hne : m ≠ j := by
        intro h'
        subst h'
        exact h (hp.inj (by omega) (by omega) (by rw [hj, hm]))
      rw [if_neg hne]
      exact ih (by omega) i (by omega) j hj

theorem invK_order {p : List Int} (hp : Order p) : Order (invK p p.length) := by
  have hl := invK_length p p.length
  refine order_of (fun j hj => ?_) (fun a b ha hb he => ?_)
  · obtain ⟨i, hi, he⟩ := hp.onto j (by omega)
    have := invK_get hp p.length (Nat.le_refl _) i hi j he
    rw [List.getElem?_eq_getElem hj] at this
    simp only [Option.some.injEq] at this
    rw [this, hl]; omega
  · obtain ⟨i, hi, hi2⟩ := hp.onto a (by omega)
    obtain ⟨k, hk, hk2⟩ := hp.onto b (by omega)
    have h1 := invK_get hp p.length (Nat.le_refl _) i hi a hi2
    have h2 := invK_get hp p.length (Nat.le_refl _) k hk b hk2
    rw [List.getElem?_eq_getElem ha] at h1
    rw [List.getElem?_eq_getElem hb] at h2
    simp only [Option.some.injEq] at h1 h2
    have : i = k := by rw [h1, h2] at he; omega
    subst this
    rw [hi2] at hk2; omega

theorem then_inv {p : List Int} (hp : Order p) : thenL p (invK p p.length) = iota p.length := by
  refine List.ext_getElem (by rw [thenL_length, iota_length]) fun i hi hi2 => ?_
  obtain ⟨j, hj, e1, e2⟩ := thenL_get p _ hp (invK_length _ _) i hi
  have := invK_get hp p.length (Nat.le_refl _) i (by rwa [thenL_length] at hi) j e1
  rw [List.getElem?_eq_getElem hj] at this
  simp only [Option.some.injEq] at this
  rw [e2, this, iota_get]

theorem inv_then {p : List Int} (hp : Order p) : thenL (invK p p.length) p = iota p.length := by
  refine List.ext_getElem (by rw [thenL_length, iota_length, invK_length]) fun i hi hi2 => ?_
  obtain ⟨j, hj, e1, e2⟩ := thenL_get _ p (invK_order hp) (invK_length _ _).symm i hi
  rw [iota_length] at hi2
  obtain ⟨k, hk, hk2⟩ := hp.onto i hi2
  have := invK_get hp p.length (Nat.le_refl _) k hk i hk2
  rw [List.getElem?_eq_getElem (by rw [invK_length]; exact hi2)] at this
  simp only [Option.some.injEq] at this
  rw [this] at e1
  have : k = j := by omega
  subst this
  rw [e2, hk2, iota_get]

theorem iota_then (q : List Int) : thenL (iota q.length) q = q := by
  refine List.ext_getElem (by rw [thenL_length, iota_length]) fun i hi hi2 => ?_
  simp [thenL, iota, hi2]

open Go.RowKit in
theorem shuffle_n (a : Option Addr) (cap n : Nat) (l : List Int) (w : World) (h : SlI w a cap l) (hl : l.length ≤ 9223372036854775807) (hn : n ≤ 1000) (hw : ∀ x ∈ l, (Lit.int .i64 x).wf = true) :
    Calls Try.prog 19 #[.slice a l.length cap, .int .i64 n] w (RetS w n (shuf l n n)) :=
  (shuffle_any a cap n l w h hl hn hw).mono fun e w' ⟨sa, c, h1, h2, h3⟩ => ⟨sa, c, h1, by
    have := own_slc h2
    unfold SlI
    rw [shuf_length]
    exact this, h3⟩

end Go.Proofs.Ytnieacfleabikaa

/- Plain facts on cycles of an order. -/
import Derived.Test.YtnieacfleabikaaPermP
namespace Go.Proofs.Ytnieacfleabikaa
set_option linter.unusedVariables false

/-- Some cycles of an order, apart from each other. -/
structure Cyc (p : List Int) (D : List (List Int)) : Prop where
  nd : D.flatten.Nodup
  rng : ∀ x ∈ D.flatten, 0 ≤ x ∧ x < p.length
  cyc : ∀ c ∈ D, c ≠ [] ∧ ∀ j (h : j < c.length), p.getD c[j].toNat 0 = c.getD ((j + 1) % c.length) 0

/-- A way from i on, up to k, apart from the cycles. -/
structure Path (p : List Int) (D : List (List Int)) (i : Int) (c : List Int) (k : Int) : Prop where
  nd : (D.flatten ++ c).Nodup
  rng : ∀ x ∈ c, 0 ≤ x ∧ x < p.length
  kr : 0 ≤ k ∧ k < p.length
  step : ∀ j (h : j + 1 < c.length), p.getD c[j].toNat 0 = c[j + 1]
  nil : c = [] → k = i
  head : ∀ h : 0 < c.length, c[0] = i ∧ p.getD (c[c.length - 1]'(by omega)).toNat 0 = k

theorem cyc_nil (p : List Int) : Cyc p [] := ⟨by simp, by simp, by simp⟩
theorem path_nil {p : List Int} {D : List (List Int)} (h : Cyc p D) (i : Int) (hi : 0 ≤ i ∧ i < p.length) : Path p D i [] i :=
  ⟨by simpa using h.nd, by simp, hi, fun j h => by simp at h, fun _ => rfl, fun h => by simp at h⟩

theorem order_getD {p : List Int} (hp : Order p) (x : Int) (hx : 0 ≤ x ∧ x < p.length) : ∃ h : x.toNat < p.length, p.getD x.toNat 0 = p[x.toNat] ∧ 0 ≤ p[x.toNat] ∧ p[x.toNat] < p.length := by
  refine ⟨by omega, ?_, hp.2 _ (List.getElem_mem _)⟩
  simp [show x.toNat < p.length by omega]
theorem order_inj {p : List Int} (hp : Order p) {x y : Int} (hx : 0 ≤ x ∧ x < p.length) (hy : 0 ≤ y ∧ y < p.length) (h : p.getD x.toNat 0 = p.getD y.toNat 0) : x = y := by
  obtain ⟨h1, e1, _⟩ := order_getD hp x hx
  obtain ⟨h2, e2, _⟩ := order_getD hp y hy
  rw [e1, e2] at h
  have := hp.inj h1 h2 h
  omega

theorem path_step {p : List Int} (hp : Order p) {D : List (List Int)} {i : Int} {c : List Int} {k : Int} (h : Path p D i c k) (hk : ¬ k ∈ D.flatten ++ c) : Path p D i (c ++ [k]) (p.getD k.toNat 0) := by
  obtain ⟨h1, e1, hr⟩ := order_getD hp k h.kr
  refine ⟨?_, ?_, by rw [e1]; exact hr, ?_, fun e => by simp at e, ?_⟩
  · rw [← List.append_assoc]
    refine List.nodup_append.2 ⟨h.nd, by simp, ?_⟩
    intro a ha b hb
    rw [List.mem_singleton] at hb
    subst hb
    intro e; subst e; exact hk ha
  · intro x hx
    rcases List.mem_append.1 hx with hx | hx
    · exact h.rng x hx
    · rw [List.mem_singleton] at hx; subst hx; exact h.kr
  · intro j hj
    rw [List.length_append, List.length_singleton] at hj
    by_cases hl : j + 1 < c.length
    · rw [List.getElem_append_left (by omega), List.getElem_append_left hl]
      exact h.step j hl
    · have hj2 : j + 1 = c.length := by omega
      rw [List.getElem_append_left (by omega), List.getElem_append_right (by omega)]
      have := (h.head (by omega)).2
      simp only [hj2, Nat.sub_self, List.getElem_singleton]
      refine Eq.trans ?_ this
      have : c[j] = c[c.length - 1] := by congr 1; omega
      rw [this]
  · intro hl
    refine ⟨?_, ?_⟩
    · by_cases hc : 0 < c.length
      · rw [List.getElem_append_left hc]; exact (h.head hc).1
      · have hc0 : c = [] := List.length_eq_zero_iff.1 (by omega)
        subst hc0
        simpa using h.nil rfl
    · rw [List.getElem_append_right (by simp)]
      simp

theorem path_len {p : List Int} {D : List (List Int)} {i : Int} {c : List Int} {k : Int} (h : Path p D i c k) : c.length ≤ p.length := by
  have hnd : c.Nodup := (List.nodup_append.1 h.nd).2.1
  have hs : c ⊆ iota p.length := by
    intro x hx
    have := h.rng x hx
    exact List.mem_iff_getElem.2 ⟨x.toNat, by rw [iota_length]; omega, by rw [iota_get]; omega⟩
  have := hnd.length_le_of_subset hs
  rwa [iota_length] at this

/-- Where the way comes to what was met, the cycle is closed. -/
theorem path_end {p : List Int} (hp : Order p) {D : List (List Int)} (hD : Cyc p D) {i : Int} {c : List Int} {k : Int} (h : Path p D i c k) (hk : k ∈ D.flatten ++ c) (hc : 0 < c.length) : Cyc p (D ++ [c]) ∧ i ∈ c := by
  obtain ⟨h0, hl⟩ := h.head hc
  have hlr := h.rng (c[c.length - 1]'(by omega)) (List.getElem_mem _)
  have hki : k = i := by
    rcases List.mem_append.1 hk with hm | hm
    · obtain ⟨d, hd, hkd⟩ := List.mem_flatten.1 hm
      obtain ⟨j, hj, rfl⟩ := List.mem_iff_getElem.1 hkd
      have hcd := (hD.cyc d hd).2
      have hdr : ∀ m (hm : m < d.length), 0 ≤ d[m] ∧ d[m] < p.length := fun m hm => hD.rng _ (List.mem_flatten.2 ⟨d, hd, List.getElem_mem hm⟩)
      -- the one ahead of it in its cycle
      have hpre : ∃ m, ∃ hm : m < d.length, p.getD d[m].toNat 0 = d[j] := by
        by_cases hj0 : j = 0
        · refine ⟨d.length - 1, by omega, ?_⟩
          rw [hcd (d.length - 1) (by omega)]
          have : (d.length - 1 + 1) % d.length = 0 := by rw [Nat.sub_add_cancel (by omega), Nat.mod_self]
          rw [this]
          subst hj0
          simp [hj]
        · refine ⟨j - 1, by omega, ?_⟩
          rw [hcd (j - 1) (by omega)]
          have : (j - 1 + 1) % d.length = j := by rw [Nat.sub_add_cancel (by omega), Nat.mod_eq_of_lt hj]
          rw [this]
          simp [hj]
      obtain ⟨m, hm', e⟩ := hpre
      have := order_inj hp (hdr m hm') hlr (by rw [e, hl])
      exfalso
      refine (List.nodup_append.1 h.nd).2.2 d[m] (List.mem_flatten.2 ⟨d, hd, List.getElem_mem hm'⟩) _ (List.getElem_mem (show c.length - 1 < c.length by omega)) this
    · obtain ⟨j, hj, rfl⟩ := List.mem_iff_getElem.1 hm
      by_cases hj0 : j = 0
      · subst hj0; exact h0
      · exfalso
        have e := h.step (j - 1) (by omega)
        have : c[j - 1 + 1]'(by omega) = c[j] := by congr 1; omega
        rw [this, ← hl] at e
        have := order_inj hp (h.rng _ (List.getElem_mem _)) hlr e
        have hnd : c.Nodup := (List.nodup_append.1 h.nd).2.1
        exact List.pairwise_iff_getElem.1 hnd (j - 1) (c.length - 1) (by omega) (by omega) (by omega) this
  have him : i ∈ c := by rw [← h0]; exact List.getElem_mem _
  refine ⟨⟨by simpa using h.nd, ?_, ?_⟩, him⟩
  · intro x hx
    rw [List.flatten_append, List.mem_append] at hx
    rcases hx with hx | hx
    · exact hD.rng x hx
    · simp at hx; exact h.rng x hx
  · intro d hd
    rcases List.mem_append.1 hd with hd | hd
    · exact hD.cyc d hd
    · rw [List.mem_singleton] at hd
      subst hd
      refine ⟨fun e => by simp [e] at hc, fun j hj => ?_⟩
      by_cases hl2 : j + 1 < d.length
      · rw [h.step j hl2, Nat.mod_eq_of_lt hl2]
        simp [hl2]
      · have hj2 : j = d.length - 1 := by omega
        subst hj2
        rw [hl, Nat.sub_add_cancel (by omega), Nat.mod_self, hki, ← h0]
        simp [hc]

/-- Cycles that hold every number hold so many. -/
theorem cyc_all {p : List Int} {D : List (List Int)} (hD : Cyc p D) (h : ∀ x : Int, 0 ≤ x → x < p.length → x ∈ D.flatten) : D.flatten.length = p.length := by
  have h1 : D.flatten.length ≤ (iota p.length).length := hD.nd.length_le_of_subset (fun x hx => by
    have := hD.rng x hx
    exact List.mem_iff_getElem.2 ⟨x.toNat, by rw [iota_length]; omega, by rw [iota_get]; omega⟩)
  have h2 : (iota p.length).length ≤ D.flatten.length := (iota_order p.length).1.length_le_of_subset (fun x hx => by
    have := (iota_order p.length).2 x hx
    rw [iota_length] at this
    exact h x this.1 this.2)
  rw [iota_length] at h1 h2
  omega

end Go.Proofs.Ytnieacfleabikaa

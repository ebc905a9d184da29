/- Plain facts on points above others: the sky, and layers. -/
import Derived.Test.YteeeikninigeoaaDoorPtP
namespace Go.Proofs.YteeeikninigeoaaDoor
set_option linter.unusedVariables false
open Go.RowKit

/-- To the right and above, not the same place. -/
def Above (a b : Pt) : Prop := b.x ≤ a.x ∧ b.y ≤ a.y ∧ (a.x ≠ b.x ∨ a.y ≠ b.y)
instance (a b : Pt) : Decidable (Above a b) := by unfold Above; exact inferInstance
def lexLe (p q : Pt) : Prop := p.x < q.x ∨ (p.x = q.x ∧ p.y ≤ q.y)
theorem lexLe_trans {p q r : Pt} (h : lexLe p q) (k : lexLe q r) : lexLe p r := by unfold lexLe at *; omega
theorem lexLe_refl (p : Pt) : lexLe p p := by unfold lexLe; omega

/-- What is known while the sky is walked from the right on. -/
structure SkyInv (g : Nat → Pt) (done out : List Nat) (top : Pt) : Prop where
  sub : out.Sublist done
  ne : done ≠ [] → out ≠ []
  left : ∀ o ∈ out, top.x ≤ (g o).x
  topin : out ≠ [] → ∃ o ∈ out, g o = top
  high : ∀ d ∈ done, (g d).y ≤ top.y
  cov : ∀ d ∈ done, d ∈ out ∨ ∃ o ∈ out, Above (g o) (g d)
  free : ∀ o ∈ out, ∀ d ∈ done, ¬ Above (g d) (g o)
  chain : out.Pairwise fun i j => (g j).x ≤ (g i).x ∧ (g i).y ≤ (g j).y
theorem SkyInv.start (g : Nat → Pt) (top : Pt) : SkyInv g [] [] top := by
  refine ⟨List.Sublist.refl _, fun h => absurd rfl h, by simp, fun h => absurd rfl h, by simp, by simp, by simp, List.Pairwise.nil⟩
theorem SkyInv.take {g : Nat → Pt} {done out : List Nat} {top : Pt} (h : SkyInv g done out top) (i : Nat) (hlex : ∀ d ∈ done, lexLe (g i) (g d))
    (hc : out = [] ∨ top.y < (g i).y ∨ ((g i).x = top.x ∧ (g i).y = top.y)) : SkyInv g (done ++ [i]) (out ++ [i]) (g i) := by
  have hdn : out = [] → done = [] := fun e => by
    apply Classical.byContradiction
    intro hd
    exact h.ne hd e
  -- nothing that was met stands above it, and it stands above nothing that is out
  have hy : ∀ d ∈ done, (g d).y ≤ (g i).y := by
    intro d hd
    have h1 := h.high d hd
    rcases hc with e | e | e
    · rw [hdn e] at hd; simp at hd
    · omega
    · omega
  have hup : ∀ d ∈ done, ¬ Above (g d) (g i) := by
    intro d hd ha
    have h1 := h.high d hd
    have h2 := hlex d hd
    unfold Above at ha
    rcases hc with e | e | e
    · rw [hdn e] at hd; simp at hd
    · omega
    · by_cases ho : out = []
      · rw [hdn ho] at hd; simp at hd
      · obtain ⟨o, ho1, ho2⟩ := h.topin ho
        have h3 := h.free o ho1 d hd
        apply h3
        unfold Above
        rw [ho2]
        omega
  have hdown : ∀ o ∈ out, ¬ Above (g i) (g o) := by
    intro o ho ha
    have h1 := hlex o (h.sub.subset ho)
    have h2 := hy o (h.sub.subset ho)
    unfold Above at ha
    unfold lexLe at h1
    omega
  refine ⟨h.sub.append (List.Sublist.refl _), by simp, ?_, fun _ => ⟨i, by simp, rfl⟩, ?_, ?_, ?_, ?_⟩
  · intro o ho
    rcases List.mem_append.1 ho with ho | ho
    · have := hlex o (h.sub.subset ho)
      unfold lexLe at this; omega
    · rw [List.mem_singleton.1 ho]; exact Int.le_refl _
  · intro d hd
    rcases List.mem_append.1 hd with hd | hd
    · exact hy d hd
    · rw [List.mem_singleton.1 hd]; exact Int.le_refl _
  · intro d hd
    rcases List.mem_append.1 hd with hd | hd
    · rcases h.cov d hd with h1 | ⟨o, ho, ha⟩
      · exact .inl (List.mem_append.2 (.inl h1))
      · exact .inr ⟨o, List.mem_append.2 (.inl ho), ha⟩
    · exact .inl (List.mem_append.2 (.inr hd))
  · intro o ho d hd
    rcases List.mem_append.1 ho with ho | ho
    · rcases List.mem_append.1 hd with hd | hd
      · exact h.free o ho d hd
      · rw [List.mem_singleton.1 hd]; exact hdown o ho
    · rw [List.mem_singleton.1 ho]
      rcases List.mem_append.1 hd with hd | hd
      · exact hup d hd
      · rw [List.mem_singleton.1 hd]; unfold Above; omega
  · rw [List.pairwise_append]
    refine ⟨h.chain, by simp, fun a ha b hb => ?_⟩
    rw [List.mem_singleton.1 hb]
    have h1 := hlex a (h.sub.subset ha)
    have h2 := hy a (h.sub.subset ha)
    unfold lexLe at h1
    omega
theorem SkyInv.skip {g : Nat → Pt} {done out : List Nat} {top : Pt} (h : SkyInv g done out top) (i : Nat) (hlex : ∀ d ∈ done, lexLe (g i) (g d))
    (hc : out ≠ []) (hc2 : ¬ top.y < (g i).y) (hc3 : ¬ ((g i).x = top.x ∧ (g i).y = top.y)) : SkyInv g (done ++ [i]) out top := by
  obtain ⟨t, ht, htt⟩ := h.topin hc
  have htd := hlex t (h.sub.subset ht)
  rw [htt] at htd
  have hab : Above top (g i) := by unfold Above; unfold lexLe at htd; omega
  have hnot : ∀ o ∈ out, ¬ Above (g i) (g o) := by
    intro o ho ha
    have h1 := hlex o (h.sub.subset ho)
    unfold Above at ha
    unfold lexLe at h1
    omega
  refine ⟨h.sub.trans (List.sublist_append_left _ _), fun _ => hc, h.left, h.topin, ?_, ?_, ?_, h.chain⟩
  · intro d hd
    rcases List.mem_append.1 hd with hd | hd
    · exact h.high d hd
    · rw [List.mem_singleton.1 hd]; omega
  · intro d hd
    rcases List.mem_append.1 hd with hd | hd
    · exact h.cov d hd
    · rw [List.mem_singleton.1 hd]; exact .inr ⟨t, ht, by rw [htt]; exact hab⟩
  · intro o ho d hd
    rcases List.mem_append.1 hd with hd | hd
    · exact h.free o ho d hd
    · rw [List.mem_singleton.1 hd]; exact hnot o ho

/-- What is known while the layers are walked from the right on. -/
structure LayInv (g : Nat → Pt) (done : List Nat) (lay : Nat → Nat) (tops : List Int) : Prop where
  fall : tops.Pairwise (fun a b => b ≤ a)
  lt : ∀ d ∈ done, lay d < tops.length
  le : ∀ d ∈ done, (g d).y ≤ tops.getD (lay d) 0
  ex : ∀ n, n < tops.length → ∃ d ∈ done, lay d = n ∧ (g d).y = tops.getD n 0
  up : ∀ a ∈ done, ∀ b ∈ done, Above (g a) (g b) → lay a < lay b
  way : ∀ b ∈ done, 0 < lay b → ∃ a ∈ done, lay a + 1 = lay b ∧ Above (g a) (g b)
  few : tops.length ≤ done.length
theorem LayInv.start (g : Nat → Pt) (lay : Nat → Nat) : LayInv g [] lay [] := by
  refine ⟨List.Pairwise.nil, by simp, by simp, by simp, by simp, by simp, Nat.le_refl _⟩
theorem LayInv.copy {g : Nat → Pt} {done : List Nat} {lay lay' : Nat → Nat} {tops : List Int} (h : LayInv g done lay tops) (i e : Nat) (he : e ∈ done) (hx : (g e).x = (g i).x) (hy : (g e).y = (g i).y)
    (h1 : ∀ d ∈ done, lay' d = lay d) (h2 : lay' i = lay e) : LayInv g (done ++ [i]) lay' tops := by
  have hl : ∀ d ∈ done ++ [i], ∃ d' ∈ done, lay' d = lay d' ∧ (g d).x = (g d').x ∧ (g d).y = (g d').y := by
    intro d hd
    rcases List.mem_append.1 hd with hd | hd
    · exact ⟨d, hd, h1 d hd, rfl, rfl⟩
    · rw [List.mem_singleton.1 hd]; exact ⟨e, he, h2, hx.symm, hy.symm⟩
  refine ⟨h.fall, ?_, ?_, ?_, ?_, ?_, ?_⟩
  · intro d hd
    obtain ⟨d', hd', e1, _, _⟩ := hl d hd
    rw [e1]; exact h.lt d' hd'
  · intro d hd
    obtain ⟨d', hd', e1, _, e3⟩ := hl d hd
    rw [e1, e3]; exact h.le d' hd'
  · intro n hn
    obtain ⟨d, hd, e1, e2⟩ := h.ex n hn
    exact ⟨d, List.mem_append.2 (.inl hd), by rw [h1 d hd, e1], e2⟩
  · intro a ha b hb hab
    obtain ⟨a', ha', e1, e2, e3⟩ := hl a ha
    obtain ⟨b', hb', f1, f2, f3⟩ := hl b hb
    rw [e1, f1]
    exact h.up a' ha' b' hb' (by unfold Above at *; omega)
  · intro b hb hp
    obtain ⟨b', hb', f1, f2, f3⟩ := hl b hb
    rw [f1] at hp ⊢
    obtain ⟨a, ha, e1, e2⟩ := h.way b' hb' hp
    exact ⟨a, List.mem_append.2 (.inl ha), by rw [h1 a ha]; exact e1, by unfold Above at *; omega⟩
  · rw [List.length_append]; have := h.few; omega
theorem fall_le {l : List Int} (h : l.Pairwise (fun a b => b ≤ a)) {i j : Nat} (hij : i ≤ j) (hj : j < l.length) : l.getD j 0 ≤ l.getD i 0 := by
  rcases Nat.eq_or_lt_of_le hij with e | e
  · rw [e]; exact Int.le_refl _
  · have h1 := List.pairwise_iff_getElem.1 h i j (by omega) hj e
    simpa [List.getD, hj, show i < l.length by omega] using h1
theorem LayInv.new {g : Nat → Pt} {done : List Nat} {lay lay' : Nat → Nat} {tops tops' : List Int} (h : LayInv g done lay tops) (i n : Nat) (hlex : ∀ d ∈ done, lexLe (g i) (g d)) (hne : ∀ d ∈ done, ¬ ((g d).x = (g i).x ∧ (g d).y = (g i).y))
    (hn : n ≤ tops.length) (n1 : ∀ m, m < n → (g i).y ≤ tops.getD m 0) (n2 : n < tops.length → tops.getD n 0 < (g i).y)
    (h1 : ∀ d ∈ done, lay' d = lay d) (h2 : lay' i = n)
    (hl : tops'.length = if n = tops.length then tops.length + 1 else tops.length) (t1 : ∀ m, m ≠ n → m < tops.length → tops'.getD m 0 = tops.getD m 0) (t2 : tops'.getD n 0 = (g i).y) : LayInv g (done ++ [i]) lay' tops' := by
  have hle : tops.length ≤ tops'.length := by rw [hl]; split <;> omega
  have hnl : n < tops'.length := by rw [hl]; split <;> omega
  have hbig : ∀ m, m < tops'.length → m ≠ n → m < tops.length := by
    intro m hm hmn
    rw [hl] at hm
    split at hm <;> omega
  have hle' : ∀ d ∈ done, tops.getD (lay d) 0 ≤ tops'.getD (lay d) 0 := by
    intro d hd
    by_cases e : lay d = n
    · rw [e, t2]
      have := n2 (by rw [← e]; exact h.lt d hd)
      omega
    · rw [t1 _ e (h.lt d hd)]; exact Int.le_refl _
  refine ⟨?_, ?_, ?_, ?_, ?_, ?_, ?_⟩
  · rw [List.pairwise_iff_getElem]
    intro a b ha hb hab
    have ga : tops'[a] = tops'.getD a 0 := by simp [List.getD, ha]
    have gb : tops'[b] = tops'.getD b 0 := by simp [List.getD, hb]
    rw [ga, gb]
    by_cases ea : a = n
    · have hb' := hbig b hb (by omega)
      rw [ea, t2, t1 b (by omega) hb']
      have := n2 (by omega)
      have := fall_le h.fall (show n ≤ b by omega) hb'
      omega
    · have ha' := hbig a ha ea
      by_cases eb : b = n
      · rw [eb, t2, t1 a ea ha']
        exact n1 a (by omega)
      · have hb' := hbig b hb eb
        rw [t1 a ea ha', t1 b eb hb']
        exact fall_le h.fall (by omega) hb'
  · intro d hd
    rcases List.mem_append.1 hd with hd | hd
    · rw [h1 d hd]; have := h.lt d hd; omega
    · rw [List.mem_singleton.1 hd, h2]; exact hnl
  · intro d hd
    rcases List.mem_append.1 hd with hd | hd
    · rw [h1 d hd]; exact Int.le_trans (h.le d hd) (hle' d hd)
    · rw [List.mem_singleton.1 hd, h2, t2]; exact Int.le_refl _
  · intro m hm
    by_cases e : m = n
    · exact ⟨i, by simp, by rw [h2, e], by rw [e, t2]⟩
    · have hm' := hbig m hm e
      obtain ⟨d, hd, e1, e2⟩ := h.ex m hm'
      exact ⟨d, List.mem_append.2 (.inl hd), by rw [h1 d hd, e1], by rw [t1 m e hm']; exact e2⟩
  · intro a ha b hb hab
    rcases List.mem_append.1 ha with ha | ha
    · rcases List.mem_append.1 hb with hb | hb
      · rw [h1 a ha, h1 b hb]; exact h.up a ha b hb hab
      · rw [List.mem_singleton.1 hb] at hab ⊢
        rw [h1 a ha, h2]
        apply Classical.byContradiction
        intro hc
        have h3 := h.lt a ha
        have h4 := h.le a ha
        have h5 := fall_le h.fall (show n ≤ lay a by omega) h3
        have h6 := n2 (by omega)
        unfold Above at hab
        omega
    · rw [List.mem_singleton.1 ha] at hab
      rcases List.mem_append.1 hb with hb | hb
      · have h3 := hlex b hb
        have h4 := hne b hb
        unfold Above at hab
        unfold lexLe at h3
        omega
      · rw [List.mem_singleton.1 hb] at hab
        unfold Above at hab
        omega
  · intro b hb hp
    rcases List.mem_append.1 hb with hb | hb
    · rw [h1 b hb] at hp ⊢
      obtain ⟨a, ha, e1, e2⟩ := h.way b hb hp
      exact ⟨a, List.mem_append.2 (.inl ha), by rw [h1 a ha]; exact e1, e2⟩
    · rw [List.mem_singleton.1 hb] at hp ⊢
      rw [h2] at hp ⊢
      obtain ⟨a, ha, e1, e2⟩ := h.ex (n - 1) (by omega)
      have h3 := n1 (n - 1) (by omega)
      have h4 := hlex a ha
      have h5 := hne a ha
      refine ⟨a, List.mem_append.2 (.inl ha), by rw [h1 a ha, e1]; omega, ?_⟩
      unfold Above
      unfold lexLe at h4
      omega
  · rw [hl, List.length_append]
    have := h.few
    split <;> simp <;> omega

end Go.Proofs.YteeeikninigeoaaDoor

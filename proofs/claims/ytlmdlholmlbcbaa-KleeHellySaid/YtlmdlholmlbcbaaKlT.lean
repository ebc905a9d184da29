/- A sweep's step, in plain words: rows by number, an addition to a range of rows. -/
import Derived.Test.YtlmdlholmlbcbaaKlP
import Derived.Test.YtlmdlholmlbcbaaRnkP
import Derived.Test.YtlmdlholmlbcbaaSegP
namespace Go.Proofs.Ytlmdlholmlbcbaa
set_option linter.unusedVariables false
open Pick (Rc Bd bd0 bds vB conB IsSweep vB_succ Y_mono mem_idx sweep_bd)

theorem updK_get (o : SOp) (D : List Int) (j i : Nat) (h : i < D.length) : (upd o j D)[i]'(by rw [upd_length]; exact h) = if o.inn (j + i) = true then o.act D[i] else D[i] := by
  induction D generalizing j i with
  | nil => simp at h
  | cons x D ih =>
    cases i with
    | zero => simp [upd]
    | succ i =>
      have := ih (j + 1) i (by simpa using h)
      simp only [upd, List.getElem_cons_succ]
      rw [this, show j + 1 + i = j + (i + 1) by omega]
theorem count_up {Y : List Int} (h : ∀ j, j + 1 < Y.length → Y.getD j 0 < Y.getD (j + 1) 0) (j : Nat) (hj : j < Y.length) : Y.countP (fun y => decide (y < Y.getD j 0)) = j := by
  have hm := Y_mono h
  obtain ⟨x, hx⟩ : ∃ x, Y.getD j 0 = x := ⟨_, rfl⟩
  rw [hx]
  conv => lhs; rw [← List.take_append_drop j Y]
  rw [List.countP_append]
  have h1 : (Y.take j).countP (fun y => decide (y < x)) = j := by
    rw [List.countP_eq_length.2, List.length_take]
    · omega
    · intro y hy
      obtain ⟨i, hi, e⟩ := List.getElem_of_mem hy
      rw [List.length_take] at hi
      rw [List.getElem_take] at e
      rw [decide_eq_true_eq, ← e, ← getD_at Y 0 (by omega), ← hx]
      exact hm _ _ (by omega) hj
  have h2 : (Y.drop j).countP (fun y => decide (y < x)) = 0 := by
    rw [List.countP_eq_zero]
    intro y hy
    obtain ⟨i, hi, e⟩ := List.getElem_of_mem hy
    rw [List.length_drop] at hi
    rw [List.getElem_drop] at e
    rw [decide_eq_true_eq, ← e, ← getD_at Y 0 (by omega), ← hx]
    rcases Nat.eq_zero_or_pos i with rfl | hp
    · rw [Nat.add_zero]; omega
    · have := hm (j + i) j (by omega) (by omega); omega
  omega
/-- The rows of a border, by number. -/
theorem bd_rows {l : List Rc} {Y : List Int} {B : List Bd} (h : IsSweep l Y B) (k : Nat) (hk : k < B.length) : ∃ j1 j2, j1 < j2 ∧ j2 < Y.length ∧ Y.getD j1 0 = (B.getD k bd0).lo ∧ Y.getD j2 0 = (B.getD k bd0).hi ∧ Y.countP (fun y => decide (y < (B.getD k bd0).lo)) = j1 ∧ Y.countP (fun y => decide (y < (B.getD k bd0).hi)) = j2 ∧ ((B.getD k bd0).d = 1 ∨ (B.getD k bd0).d = -1) := by
  have hm : B.getD k bd0 ∈ B := by rw [getD_at _ _ hk]; exact List.getElem_mem hk
  obtain ⟨h1, h2, h3, h4⟩ := sweep_bd h _ hm
  obtain ⟨j1, hj1, e1⟩ := mem_idx h1
  obtain ⟨j2, hj2, e2⟩ := mem_idx h2
  have hlt : j1 < j2 := by
    rcases Nat.lt_trichotomy j1 j2 with h5 | h5 | h5
    · exact h5
    · subst h5; omega
    · have := Y_mono h.ys j1 j2 h5 hj1; omega
  exact ⟨j1, j2, hlt, hj2, e1, e2, by rw [← e1]; exact count_up h.ys j1 hj1, by rw [← e2]; exact count_up h.ys j2 hj2, h4⟩
/-- The rows behind a border's addition. -/
theorem deep_step {l : List Rc} {Y D : List Int} {B : List Bd} (h : IsSweep l Y B) {k j1 j2 : Nat} (hk : k < B.length) (h2 : j2 < Y.length) (e1 : Y.getD j1 0 = (B.getD k bd0).lo) (e2 : Y.getD j2 0 = (B.getD k bd0).hi) (h12 : j1 < j2) (hl : D.length = Y.length)
    (hD : ∀ j, j < Y.length → D.getD j 0 = vB (B.take k) (Y.getD j 0)) : ∀ j, j < Y.length → (upd ⟨1, j1, j2 - 1, (B.getD k bd0).d⟩ 0 D).getD j 0 = vB (B.take (k + 1)) (Y.getD j 0) := by
  intro j hj
  have hm := Y_mono h.ys
  rw [getD_at _ _ (by rw [upd_length]; omega), updK_get _ _ _ _ (by omega), Nat.zero_add, vB_succ hk, ← hD j hj, ← getD_at D 0 (by omega)]
  unfold conB SOp.inn SOp.act
  dsimp only
  rw [← e1, ← e2]
  have hlo : Y.getD j1 0 ≤ Y.getD j 0 ↔ j1 ≤ j := by
    rcases Nat.lt_trichotomy j1 j with h5 | h5 | h5
    · have := hm j j1 h5 hj; exact ⟨fun _ => by omega, fun _ => by omega⟩
    · subst h5; exact ⟨fun _ => Nat.le_refl _, fun _ => Int.le_refl _⟩
    · have := hm j1 j h5 (by omega); exact ⟨fun _ => by omega, fun _ => by omega⟩
  have hhi : Y.getD j 0 < Y.getD j2 0 ↔ j ≤ j2 - 1 := by
    rcases Nat.lt_trichotomy j j2 with h5 | h5 | h5
    · have := hm j2 j h5 h2; exact ⟨fun _ => by omega, fun _ => by omega⟩
    · subst h5; exact ⟨fun _ => by omega, fun _ => by omega⟩
    · have := hm j j2 h5 hj; exact ⟨fun _ => by omega, fun _ => by omega⟩
  by_cases hc : j1 ≤ j ∧ j ≤ j2 - 1
  · rw [if_pos (by rw [decide_eq_true_eq]; exact hc), if_pos rfl, if_pos ⟨hlo.2 hc.1, hhi.2 hc.2⟩]
  · rw [if_neg (by rw [decide_eq_true_eq]; exact hc), if_neg (fun h5 => hc ⟨hlo.1 h5.1, hhi.1 h5.2⟩)]
    omega
theorem vB_bound (y : Int) : ∀ B : List Bd, (∀ b ∈ B, b.d = 1 ∨ b.d = -1) → (vB B y).natAbs ≤ B.length
  | [], _ => by show (0 : Int).natAbs ≤ 0; decide
  | b :: B, h => by
    have h1 := vB_bound y B (fun q hq => h q (List.mem_cons_of_mem _ hq))
    have h2 := h b List.mem_cons_self
    show (conB b y + vB B y).natAbs ≤ B.length + 1
    unfold conB
    split <;> omega
theorem deep_bound {l : List Rc} {Y D : List Int} {B : List Bd} (h : IsSweep l Y B) {k : Nat} (hl : D.length = Y.length) (hD : ∀ j, j < Y.length → D.getD j 0 = vB (B.take k) (Y.getD j 0)) : ∀ x ∈ D, x.natAbs ≤ B.length := by
  intro x hx
  obtain ⟨j, hj, e⟩ := List.getElem_of_mem hx
  have := hD j (by omega)
  rw [getD_at _ _ hj, e] at this
  rw [this]
  have := vB_bound (Y.getD j 0) (B.take k) (fun b hb => (sweep_bd h b (List.mem_of_mem_take hb)).2.2.2)
  rw [List.length_take] at this
  omega
/-- All rows, each once, and the borders by x: a sweep. -/
theorem is_sweep {l : List Rc} {B : List Bd} {ys : List Int} (ok : ∀ r ∈ l, r.x0 ≤ r.x1 ∧ r.y0 ≤ r.y1) (hm : ∀ y, y ∈ ys ↔ ∃ r ∈ l, y = r.y0 ∨ y = r.y1 + 1) (hp : B.Perm (bds l)) (hu : ∀ i j, i ≤ j → j < B.length → (B.getD i bd0).x ≤ (B.getD j bd0).x) : IsSweep l (valL ys) B where
  ok := ok
  perm := hp
  up := hu
  ys j hj := up_lt (valL_up ys) (by omega) hj
  mem y := by rw [valL_mem]; exact hm y

end Go.Proofs.Ytlmdlholmlbcbaa

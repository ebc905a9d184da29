/- An element is taken out of a slice of the call's own. -/
import Derived.Test.YteeeikninigeoaaDoorKeep
namespace Go.Proofs.YteeeikninigeoaaDoor
set_option linter.unusedVariables false
open Go.RowKit

theorem own_setCells {B e g n cap : Nat} : ∀ (vs : List Value) (o : Nat) (w : World) (xs : List Value), w.ownsRow B e 1 (.slice (some ⟨g, 0, none⟩) n cap) n xs → o + vs.length ≤ n →
    (w.setCells g o vs).ownsRow B e 1 (.slice (some ⟨g, 0, none⟩) n cap) n (xs.take o ++ vs ++ xs.drop (o + vs.length)) ∧ w.grownBy (w.setCells g o vs) (some g)
  | [], o, w, xs, h, hl => by
    refine ⟨?_, grown_refl _ _⟩
    simp only [List.append_nil, List.length_nil, Nat.add_zero, List.take_append_drop]
    exact h
  | v :: vs, o, w, xs, h, hl => by
    have hxl : xs.length = n := by rw [h.1, Nat.mul_one]
    have h1 := (h.stored o v).1
    obtain ⟨h2, h3⟩ := own_setCells vs (o + 1) (w.setCell ⟨g, o, none⟩ v) _ h1 (by simp at hl; omega)
    refine ⟨?_, grown_trans (grown_set w g o v) h3⟩
    have e : (xs.set o v).take (o + 1) ++ vs ++ (xs.set o v).drop (o + 1 + vs.length) = xs.take o ++ (v :: vs) ++ xs.drop (o + (v :: vs).length) := by
      have ho : o < xs.length := by simp at hl; omega
      rw [List.drop_set_of_lt (by omega), List.take_set]
      rw [List.take_succ_eq_append_getElem ho, List.set_append_right _ _ (by simp; omega)]
      simp [Nat.min_eq_left (Nat.le_of_lt ho), Nat.add_assoc, Nat.add_comm 1]
    rw [← e]
    exact h2
theorem own_front {w : World} {B e g n m cap : Nat} {xs : List Value} (h : w.ownsRow B e 1 (.slice (some ⟨g, 0, none⟩) n cap) n xs) (hm : m ≤ n) : w.ownsRow B e 1 (.slice (some ⟨g, 0, none⟩) m cap) m (xs.take m) := by
  have hxl : xs.length = n := by rw [h.1, Nat.mul_one]
  refine ⟨by rw [List.length_take, hxl]; omega, ?_⟩
  rcases h.2 with ⟨hv, _⟩ | ⟨g', cap', cur, hv, hB, hg, h1, h2, h3, h4⟩
  · cases hv
  · simp only [Value.slice.injEq, Option.some.injEq, Addr.mk.injEq, and_true, true_and] at hv
    obtain ⟨rfl, rfl⟩ := hv
    refine .inr ⟨g, cap, cur, rfl, hB, hg, by omega, h2, h3, ?_⟩
    rw [← h4, Nat.mul_one, Nat.mul_one, List.take_take, Nat.min_eq_left hm]
/-- The row behind 'append(s[:i], s[i+1:]...)'. -/
theorem own_del {w : World} {B g n cap i : Nat} {L : List Int} (h : w.ownsRow B 3 1 (.slice (some ⟨g, 0, none⟩) n cap) n (ints L)) (hi : i < n) :
    (w.setCells g i (ints (L.drop (i + 1)))).ownsRow B 3 1 (.slice (some ⟨g, 0, none⟩) (i + (n - (i + 1))) cap) (i + (n - (i + 1))) (ints (L.eraseIdx i)) ∧ w.grownBy (w.setCells g i (ints (L.drop (i + 1)))) (some g) := by
  have hL : L.length = n := by have := h.1; rwa [ints_length, Nat.mul_one] at this
  obtain ⟨h1, h2⟩ := own_setCells (ints (L.drop (i + 1))) i w _ h (by rw [ints_length, List.length_drop]; omega)
  refine ⟨?_, h2⟩
  have h3 := own_front h1 (m := i + (n - (i + 1))) (by omega)
  have e : ((ints L).take i ++ ints (L.drop (i + 1)) ++ (ints L).drop (i + (ints (L.drop (i + 1))).length)).take (i + (n - (i + 1))) = ints (L.eraseIdx i) := by
    rw [List.eraseIdx_eq_take_drop_succ, ints_append]
    have e1 : (ints L).take i = ints (L.take i) := by simp [ints]
    rw [e1, List.take_append_of_le_length (by rw [List.length_append, ints_length, ints_length, List.length_take, List.length_drop, hL]; omega)]
    apply List.take_of_length_le
    rw [List.length_append, ints_length, ints_length, List.length_take, List.length_drop, hL]; omega
  rwa [e] at h3

end Go.Proofs.YteeeikninigeoaaDoor

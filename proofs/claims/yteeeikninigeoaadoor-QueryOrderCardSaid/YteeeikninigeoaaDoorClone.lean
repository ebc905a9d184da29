/- slices.Clone of a slice of int. -/
import Derived.Test.YteeeikninigeoaaDoorKeep
import Derived.Test.YteeeikninigeoaaDoorShelf
namespace Go.Proofs.YteeeikninigeoaaDoor
set_option linter.unusedVariables false
open Go.RowKit

theorem own_is_slice {w : World} {B e size n : Nat} {v : Value} {xs : List Value} (h : w.ownsRow B e size v n xs) : ∃ a cap, v = .slice a n cap := by
  rcases h.2 with ⟨h, h2⟩ | ⟨g, cap, cur, hv, _⟩
  · exact ⟨none, 0, by rw [h, h2]⟩
  · exact ⟨_, _, hv⟩

theorem clone_any (a : Option Addr) (cap n : Nat) (l : List Int) (w : World) (h : SlI w a cap l) (hn : l.length = n) (hb : n * 8 ≤ 140737488355328) :
    Calls Tryd.prog 79 #[.slice a n cap] w fun e w' => ∃ b c, e = .returned (.slice b n c) ∧ OwnI w.heap.size w' b c l ∧ Below w.heap.size w w' := by
  cases a with
  | none =>
    have h0 := h.nil rfl
    have h1 := h.le
    have hl : l = [] := List.length_eq_zero_iff.1 (by omega)
    subst hl
    subst hn
    exact (Tryd.slices_Clone_int_nil 0 cap w).mono fun e w' ⟨h1, h2⟩ => ⟨none, 0, h1, World.ownsRow_nil _ _ _ _, by rw [h2]; exact Below.refl _ _⟩
  | some ad =>
    by_cases h0 : n = 0
    · subst h0
      have hl : l = [] := List.length_eq_zero_iff.1 hn
      subst hl
      refine (Tryd.slices_Clone_int_zero ad cap w).mono fun e w' ⟨v', h1, h2, _, h3⟩ => ?_
      obtain ⟨b, c, rfl⟩ := own_is_slice h2
      exact ⟨b, c, h1, h2, h3⟩
    · obtain ⟨b0, off, ha, _⟩ := h.at 0 (by omega)
      simp only [Option.some.injEq] at ha
      subst ha
      refine (Tryd.slices_Clone_int b0 off n cap l w (by omega) hb (fun j hj => ?_)).mono fun e w' ⟨v', h1, h2, _, h3⟩ => ?_
      · obtain ⟨b1, o1, ha, hc⟩ := h.at j hj
        simp only [Option.some.injEq, Addr.mk.injEq] at ha
        obtain ⟨rfl, rfl, _⟩ := ha
        rw [hc, getD_at _ _ hj]
      · obtain ⟨b, c, rfl⟩ := own_is_slice h2
        refine ⟨b, c, h1, ?_, h3⟩
        rw [List.take_of_length_le (by omega)] at h2
        subst hn
        exact h2

end Go.Proofs.YteeeikninigeoaaDoor

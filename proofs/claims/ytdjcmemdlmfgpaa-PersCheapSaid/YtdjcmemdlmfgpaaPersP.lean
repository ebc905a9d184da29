/- Plain facts on trees of numbers that are never changed: each node has a number of its own, the place at which it was made. -/
import Derived.Test.YtdjcmemdlmfgpaaKeep
namespace Go.Proofs.Ytdjcmemdlmfgpaa
set_option linter.unusedVariables false

inductive PT
  | leaf (i : Nat) (v : Int)
  | node (i : Nat) (l r : PT)
def PT.id : PT → Nat
  | .leaf i _ => i
  | .node i _ _ => i
def PT.vals : PT → List Int
  | .leaf _ v => [v]
  | .node _ l r => l.vals ++ r.vals
def PT.wide (T : PT) : Nat := T.vals.length
theorem PT.wide_leaf (i : Nat) (v : Int) : (PT.leaf i v).wide = 1 := rfl
theorem PT.wide_node (i : Nat) (l r : PT) : (PT.node i l r).wide = l.wide + r.wide := by simp [PT.wide, PT.vals]
theorem PT.wide_pos (T : PT) : 0 < T.wide := by
  induction T with
  | leaf i v => exact Nat.one_pos
  | node i l r hl hr => rw [PT.wide_node]; omega
def PT.Bal : PT → Prop
  | .leaf _ _ => True
  | .node _ l r => l.wide = (l.wide + r.wide + 1) / 2 ∧ l.Bal ∧ r.Bal
/-- A tree of a list; n0 nodes are there. -/
def growT : Nat → Nat → List Int → PT × Nat
  | 0, n0, l => (.leaf n0 (l.getD 0 0), n0 + 1)
  | f + 1, n0, l => if l.length = 1 then (.leaf n0 (l.getD 0 0), n0 + 1) else
      let a := growT f n0 (l.take ((l.length + 1) / 2))
      let b := growT f a.2 (l.drop ((l.length + 1) / 2))
      (.node b.2 a.1 b.1, b.2 + 1)
def setT : PT → Nat → Int → Nat → PT × Nat
  | .leaf _ _, _, y, n0 => (.leaf n0 y, n0 + 1)
  | .node _ l r, i, y, n0 => if i < l.wide then
      let a := setT l i y n0
      (.node a.2 a.1 r, a.2 + 1)
    else
      let b := setT r (i - l.wide) y n0
      (.node b.2 l b.1, b.2 + 1)
def withT : PT → PT → Int → Nat → PT × Nat
  | .node j l r, .node k l2 r2, i, n0 => if i ≤ 0 then (.node k l2 r2, n0) else if ((PT.node j l r).wide : Int) ≤ i then (.node j l r, n0) else
      let a := withT l l2 i n0
      let b := withT r r2 (i - l.wide) a.2
      (.node b.2 a.1 b.1, b.2 + 1)
  | T, O, i, n0 => if i ≤ 0 then (O, n0) else (T, n0)

theorem growT_vals (f n0 : Nat) (l : List Int) (h0 : 0 < l.length) (h : l.length ≤ f + 1) : (growT f n0 l).1.vals = l ∧ (growT f n0 l).1.Bal := by
  induction f generalizing n0 l with
  | zero =>
    obtain ⟨x, rfl⟩ := List.length_eq_one_iff.1 (show l.length = 1 by omega)
    exact ⟨rfl, trivial⟩
  | succ f ih =>
    unfold growT
    by_cases h1 : l.length = 1
    · obtain ⟨x, rfl⟩ := List.length_eq_one_iff.1 h1
      exact ⟨rfl, trivial⟩
    · rw [if_neg h1]
      obtain ⟨a1, a2⟩ := ih n0 (l.take ((l.length + 1) / 2)) (by rw [List.length_take]; omega) (by rw [List.length_take]; omega)
      obtain ⟨b1, b2⟩ := ih (growT f n0 (l.take ((l.length + 1) / 2))).2 (l.drop ((l.length + 1) / 2)) (by rw [List.length_drop]; omega) (by rw [List.length_drop]; omega)
      refine ⟨?_, ?_, a2, b2⟩
      · show PT.vals _ ++ PT.vals _ = l
        rw [a1, b1, List.take_append_drop]
      · unfold PT.wide
        rw [a1, b1, List.length_take, List.length_drop]; omega
theorem setT_vals (T : PT) (i : Nat) (y : Int) (n0 : Nat) (hi : i < T.wide) (hb : T.Bal) : (setT T i y n0).1.vals = T.vals.set i y ∧ (setT T i y n0).1.Bal := by
  induction T generalizing i n0 with
  | leaf j v =>
    have : i = 0 := by rw [PT.wide_leaf] at hi; omega
    subst this
    exact ⟨rfl, trivial⟩
  | node j l r hl hr =>
    rw [PT.wide_node] at hi
    obtain ⟨b1, b2, b3⟩ := hb
    unfold setT
    by_cases h : i < l.wide
    · rw [if_pos h]
      obtain ⟨a1, a2⟩ := hl i n0 h b2
      have hw : (setT l i y n0).1.wide = l.wide := by unfold PT.wide; rw [a1, List.length_set]
      refine ⟨?_, ?_, a2, b3⟩
      · show PT.vals _ ++ PT.vals _ = (l.vals ++ r.vals).set i y
        rw [a1, List.set_append_left _ _ h]
      · show PT.wide _ = _; rw [hw]; exact b1
    · rw [if_neg h]
      obtain ⟨a1, a2⟩ := hr (i - l.wide) n0 (by omega) b3
      have hw : (setT r (i - l.wide) y n0).1.wide = r.wide := by show (setT r (i - l.wide) y n0).1.vals.length = r.vals.length; rw [a1, List.length_set]
      refine ⟨?_, ?_, b2, a2⟩
      · show PT.vals _ ++ PT.vals _ = (l.vals ++ r.vals).set i y
        rw [a1, List.set_append_right _ _ (by unfold PT.wide at h; omega)]; rfl
      · show l.wide = (l.wide + PT.wide _ + 1) / 2; rw [hw]; exact b1
theorem same_shape {T O : PT} (hb : T.Bal) (hc : O.Bal) (h : T.wide = O.wide) : (∃ i v j u, T = .leaf i v ∧ O = .leaf j u) ∨ ∃ i l r j l2 r2, T = .node i l r ∧ O = .node j l2 r2 ∧ l.wide = l2.wide ∧ r.wide = r2.wide ∧ l.Bal ∧ r.Bal ∧ l2.Bal ∧ r2.Bal := by
  cases T with
  | leaf i v =>
    cases O with
    | leaf j u => exact .inl ⟨i, v, j, u, rfl, rfl⟩
    | node j l2 r2 =>
      rw [PT.wide_leaf, PT.wide_node] at h
      have := l2.wide_pos
      have := r2.wide_pos
      omega
  | node i l r =>
    cases O with
    | leaf j u =>
      rw [PT.wide_leaf, PT.wide_node] at h
      have := l.wide_pos
      have := r.wide_pos
      omega
    | node j l2 r2 =>
      rw [PT.wide_node, PT.wide_node] at h
      obtain ⟨b1, b2, b3⟩ := hb
      obtain ⟨c1, c2, c3⟩ := hc
      exact .inr ⟨i, l, r, j, l2, r2, rfl, rfl, by omega, by omega, b2, b3, c2, c3⟩
theorem withT_vals (T O : PT) (i : Int) (n0 : Nat) (hb : T.Bal) (hc : O.Bal) (hw : T.wide = O.wide) : (withT T O i n0).1.vals = T.vals.take i.toNat ++ O.vals.drop i.toNat ∧ (withT T O i n0).1.Bal := by
  induction T generalizing O i n0 with
  | leaf j v =>
    rcases same_shape hb hc hw with ⟨a, b, c, d, e1, e2⟩ | ⟨_, _, _, _, _, _, e1, _⟩
    · subst e2
      unfold withT
      by_cases h : i ≤ 0
      · rw [if_pos h, show i.toNat = 0 by omega]
        exact ⟨rfl, trivial⟩
      · rw [if_neg h, List.take_of_length_le (by simp [PT.vals]; omega), List.drop_eq_nil_of_le (by simp [PT.vals]; omega), List.append_nil]
        exact ⟨rfl, trivial⟩
    · exact absurd e1 (by simp)
  | node j l r hl hr =>
    rcases same_shape hb hc hw with ⟨a, b, c, d, e1, e2⟩ | ⟨_, _, _, k, l2, r2, e1, e2, w1, w2, b1, b2, c1, c2⟩
    · exact absurd e1 (by simp)
    · simp only [PT.node.injEq] at e1
      obtain ⟨rfl, rfl, rfl⟩ := e1
      subst e2
      unfold withT
      by_cases h : i ≤ 0
      · rw [if_pos h, show i.toNat = 0 by omega]
        exact ⟨rfl, hc⟩
      · rw [if_neg h]
        by_cases h2 : ((PT.node j l r).wide : Int) ≤ i
        · rw [if_pos h2]
          have h3 : (PT.node j l r).vals.length ≤ i.toNat := by have : (PT.node j l r).wide ≤ i.toNat := by omega
                                                                exact this
          have h4 : (PT.node k l2 r2).vals.length ≤ i.toNat := by have : (PT.node k l2 r2).wide ≤ i.toNat := by omega
                                                                  exact this
          rw [List.take_of_length_le h3, List.drop_eq_nil_of_le h4, List.append_nil]
          exact ⟨rfl, hb⟩
        · rw [if_neg h2]
          obtain ⟨a1, a2⟩ := hl l2 i n0 b1 c1 w1
          obtain ⟨d1, d2⟩ := hr r2 (i - l.wide) (withT l l2 i n0).2 b2 c2 w2
          have hL : l.vals.length = l.wide := rfl
          have hR : r.vals.length = r.wide := rfl
          have hL2 : l2.vals.length = l2.wide := rfl
          have hR2 : r2.vals.length = r2.wide := rfl
          have x1 : (withT l l2 i n0).1.wide = l.wide := by unfold PT.wide; rw [a1, List.length_append, List.length_take, List.length_drop]; omega
          have x2 : (withT r r2 (i - l.wide) (withT l l2 i n0).2).1.wide = r.wide := by show (withT r r2 (i - l.wide) (withT l l2 i n0).2).1.vals.length = r.wide; rw [d1, List.length_append, List.length_take, List.length_drop]; omega
          refine ⟨?_, ?_, a2, d2⟩
          · show PT.vals _ ++ PT.vals _ = (l.vals ++ r.vals).take i.toNat ++ (l2.vals ++ r2.vals).drop i.toNat
            rw [a1, d1, List.take_append, List.drop_append, hL, hL2, ← w1, show i.toNat - l.wide = (i - (l.wide : Int)).toNat by omega]
            by_cases h5 : i.toNat ≤ l.wide
            · rw [show (i - (l.wide : Int)).toNat = 0 by omega]; simp
            · rw [show l2.vals.drop i.toNat = [] from List.drop_eq_nil_of_le (by omega)]; simp
          · rw [x1, x2]; exact hb.1
theorem withT_le (T O : PT) (i : Int) (n0 : Nat) (h : i ≤ 0) : withT T O i n0 = (O, n0) := by
  cases T <;> cases O <;> simp [withT, h]
theorem withT_ge (T O : PT) (i : Int) (n0 : Nat) (h : (T.wide : Int) ≤ i) : withT T O i n0 = (T, n0) := by
  have h0 := T.wide_pos
  have : ¬ i ≤ 0 := by omega
  cases T <;> cases O <;> simp [withT, this]
  intro h2; omega
end Go.Proofs.Ytdjcmemdlmfgpaa

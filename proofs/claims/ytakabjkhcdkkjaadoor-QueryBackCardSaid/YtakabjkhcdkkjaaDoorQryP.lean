/- Expressions: the plain facts, and how they lie in memory. -/
import Derived.Test.YtakabjkhcdkkjaaDoorFlat
import Derived.Lib.ItoaNum
import Derived.Lib.ItoaMem
namespace Go.Proofs.YtakabjkhcdkkjaaDoor
set_option linter.unusedVariables false
open Go.RowKit

/-- An expression with at most three parts. -/
inductive Ex where
  | inn (a b c d : Int)
  | hv (x : Int)
  | not (p : Ex)
  | two (o : Bool) (p q : Ex)
  | three (o : Bool) (p q r : Ex)
namespace Ex
def parts : Ex → List Ex
  | .inn .. => []
  | .hv _ => []
  | .not p => [p]
  | .two _ p q => [p, q]
  | .three _ p q r => [p, q, r]
def ok (o : Bool) : Int := if o = true then 4 else 3
def kind : Ex → Int
  | .inn .. => 1
  | .hv _ => 2
  | .not _ => 5
  | .two o _ _ => ok o
  | .three o _ _ _ => ok o
def rx0 : Ex → Int
  | .inn a _ _ _ => a
  | _ => 0
def ry0 : Ex → Int
  | .inn _ b _ _ => b
  | _ => 0
def rx1 : Ex → Int
  | .inn _ _ c _ => c
  | _ => 0
def ry1 : Ex → Int
  | .inn _ _ _ d => d
  | _ => 0
def wt : Ex → Int
  | .hv x => x
  | _ => 0
theorem ind {P : Ex → Prop} (h : ∀ x, (∀ p ∈ x.parts, P p) → P x) : ∀ x, P x
  | .inn .. => h _ (fun p hp => absurd hp (by simp [parts]))
  | .hv _ => h _ (fun p hp => absurd hp (by simp [parts]))
  | .not p => h _ (fun s hs => by
      simp only [parts, List.mem_cons, List.not_mem_nil, or_false] at hs
      rw [hs]; exact ind h p)
  | .two _ p q => h _ (fun s hs => by
      simp only [parts, List.mem_cons, List.not_mem_nil, or_false] at hs
      rcases hs with e | e
      · rw [e]; exact ind h p
      · rw [e]; exact ind h q)
  | .three _ p q r => h _ (fun s hs => by
      simp only [parts, List.mem_cons, List.not_mem_nil, or_false] at hs
      rcases hs with e | e | e
      · rw [e]; exact ind h p
      · rw [e]; exact ind h q
      · rw [e]; exact ind h r)
/-- How deep. -/
def dep : Ex → Nat
  | .inn .. => 1
  | .hv _ => 1
  | .not p => p.dep + 1
  | .two _ p q => max p.dep q.dep + 1
  | .three _ p q r => max p.dep (max q.dep r.dep) + 1
theorem dep_part {x p : Ex} (h : p ∈ x.parts) : p.dep + 1 ≤ x.dep := by
  cases x <;> simp only [parts, List.mem_cons, List.not_mem_nil, or_false] at h
  · rw [h]; simp only [dep]; omega
  · rcases h with rfl | rfl <;> simp only [dep] <;> omega
  · rcases h with rfl | rfl | rfl <;> simp only [dep] <;> omega
theorem dep_pos (x : Ex) : 1 ≤ x.dep := by cases x <;> simp only [dep] <;> omega
/-- Small numbers. -/
def small : Ex → Prop
  | .inn a b c d => (0 ≤ a ∧ a < 20) ∧ (0 ≤ b ∧ b < 20) ∧ (0 ≤ c ∧ c < 20) ∧ (0 ≤ d ∧ d < 20)
  | .hv x => -3 ≤ x ∧ x < 17
  | .not p => p.small
  | .two _ p q => p.small ∧ q.small
  | .three _ p q r => p.small ∧ q.small ∧ r.small
theorem small_part {x p : Ex} (hx : x.small) (h : p ∈ x.parts) : p.small := by
  cases x <;> simp only [parts, List.mem_cons, List.not_mem_nil, or_false] at h <;> simp only [small] at hx
  · rw [h]; exact hx
  · rcases h with rfl | rfl
    · exact hx.1
    · exact hx.2
  · rcases h with rfl | rfl | rfl
    · exact hx.1
    · exact hx.2.1
    · exact hx.2.2
theorem small_rect {x : Ex} (hx : x.small) : (0 ≤ x.rx0 ∧ x.rx0 < 20) ∧ (0 ≤ x.ry0 ∧ x.ry0 < 20) ∧ (0 ≤ x.rx1 ∧ x.rx1 < 20) ∧ (0 ≤ x.ry1 ∧ x.ry1 < 20) ∧ (-3 ≤ x.wt ∧ x.wt < 17) := by
  cases x <;> simp only [small] at hx <;> simp only [rx0, ry0, rx1, ry1, wt] <;> omega
/-- What an expression of a kind looks like. -/
theorem shape (x : Ex) : (x.kind = 1 ∧ x.parts.length = 0 ∧ x.wt = 0) ∨ (x.kind = 2 ∧ x.parts.length = 0 ∧ x.rx0 = 0 ∧ x.ry0 = 0 ∧ x.rx1 = 0 ∧ x.ry1 = 0) ∨ ((x.kind = 3 ∨ x.kind = 4) ∧ (x.parts.length = 2 ∨ x.parts.length = 3) ∧ x.rx0 = 0 ∧ x.ry0 = 0 ∧ x.rx1 = 0 ∧ x.ry1 = 0 ∧ x.wt = 0) ∨ (x.kind = 5 ∧ x.parts.length = 1 ∧ x.rx0 = 0 ∧ x.ry0 = 0 ∧ x.rx1 = 0 ∧ x.ry1 = 0 ∧ x.wt = 0) := by
  cases x with
  | inn a b c d => exact .inl ⟨rfl, rfl, rfl⟩
  | hv y => exact .inr (.inl ⟨rfl, rfl, rfl, rfl, rfl, rfl⟩)
  | not p => exact .inr (.inr (.inr ⟨rfl, rfl, rfl, rfl, rfl, rfl, rfl⟩))
  | two o p q => exact .inr (.inr (.inl ⟨by cases o <;> simp [kind, ok], .inl rfl, rfl, rfl, rfl, rfl, rfl⟩))
  | three o p q r => exact .inr (.inr (.inl ⟨by cases o <;> simp [kind, ok], .inr rfl, rfl, rfl, rfl, rfl, rfl⟩))
/-- How closely a kind is bound. -/
def rank (k : Int) : Int := if k = 4 then 1 else if k = 3 then 2 else 3
/-- The texts. -/
def num (n : Int) : List UInt8 := 32 :: Lib.itoa n
def wrapT (k : Int) (p : Ex) (t : List UInt8) : List UInt8 := if rank p.kind ≤ rank k ∧ rank p.kind < 3 then [40] ++ t ++ [41] else t
def sepT (o : Bool) : List UInt8 := if o = true then [32, 124, 32] else [32, 38, 32]
def txt : Ex → List UInt8
  | .inn a b c d => [105, 110] ++ num a ++ num b ++ num c ++ num d
  | .hv x => [119, 32] ++ Lib.itoa x
  | .not p => [33] ++ wrapT 5 p p.txt
  | .two o p q => wrapT (ok o) p p.txt ++ sepT o ++ wrapT (ok o) q q.txt
  | .three o p q r => wrapT (ok o) p p.txt ++ sepT o ++ wrapT (ok o) q q.txt ++ sepT o ++ wrapT (ok o) r r.txt
theorem itoa_two {x : Int} (h1 : -10 < x) (h2 : x < 100) : (Lib.itoa x).length ≤ 2 := by
  rcases Int.lt_or_le x 0 with h | h
  · obtain ⟨u, rfl⟩ : ∃ u : Nat, x = -(u : Int) := ⟨x.natAbs, by omega⟩
    rw [Lib.itoa_neg u (by omega), Lib.decDigits_one (by omega)]; simp
  · obtain ⟨u, rfl⟩ : ∃ u : Nat, x = (u : Int) := ⟨x.toNat, by omega⟩
    rw [Lib.itoa_nonneg]
    by_cases h3 : u < 10
    · rw [Lib.decDigits_one h3]; simp
    · rw [Lib.decDigits_two h3 (by omega)]; simp
theorem wrap_len (k : Int) (p : Ex) (t : List UInt8) : (wrapT k p t).length ≤ t.length + 2 := by
  unfold wrapT; split <;> simp <;> omega
/-- The longest a text of so many levels can be. -/
def bnd : Nat → Nat
  | 0 => 0
  | n + 1 => if n = 0 then 14 else 3 * (bnd n + 2) + 6
theorem bnd_ge : ∀ n, 14 ≤ bnd (n + 1) := by
  intro n
  induction n with
  | zero => decide
  | succ n ih => simp only [bnd] at *; rw [if_neg (by omega)]; omega
theorem txt_len : ∀ (x : Ex) (n : Nat), x.small → x.dep ≤ n → x.txt.length ≤ bnd n := by
  intro x
  induction x with
  | inn a b c d =>
    intro n hs hd
    simp only [small] at hs
    have h1 := itoa_two (x := a) (by omega) (by omega)
    have h2 := itoa_two (x := b) (by omega) (by omega)
    have h3 := itoa_two (x := c) (by omega) (by omega)
    have h4 := itoa_two (x := d) (by omega) (by omega)
    have hl : (Ex.inn a b c d).txt.length ≤ 14 := by
      simp only [txt, num, List.length_append, List.length_cons, List.length_nil]; omega
    cases n with
    | zero => simp only [dep] at hd; omega
    | succ n => exact Nat.le_trans hl (bnd_ge n)
  | hv y =>
    intro n hs hd
    simp only [small] at hs
    have h1 := itoa_two (x := y) (by omega) (by omega)
    have hl : (Ex.hv y).txt.length ≤ 14 := by
      simp only [txt, List.length_append, List.length_cons, List.length_nil]; omega
    cases n with
    | zero => simp only [dep] at hd; omega
    | succ n => exact Nat.le_trans hl (bnd_ge n)
  | not p ih =>
    intro n hs hd
    simp only [small] at hs
    simp only [dep] at hd
    have h1 := ih (n - 1) hs (by omega)
    have h2 := wrap_len 5 p p.txt
    have hp := dep_pos p
    obtain ⟨m, rfl⟩ : ∃ m, n = m + 1 := ⟨n - 1, by omega⟩
    simp only [Nat.add_sub_cancel] at h1
    simp only [bnd, txt, List.length_append, List.length_cons, List.length_nil]
    rw [if_neg (by omega)]; omega
  | two o p q ih1 ih2 =>
    intro n hs hd
    simp only [small] at hs
    simp only [dep] at hd
    have h1 := ih1 (n - 1) hs.1 (by omega)
    have h2 := wrap_len (ok o) p p.txt
    have h3 := ih2 (n - 1) hs.2 (by omega)
    have h4 := wrap_len (ok o) q q.txt
    have h5 : (sepT o).length = 3 := by cases o <;> rfl
    have hp := dep_pos p
    obtain ⟨m, rfl⟩ : ∃ m, n = m + 1 := ⟨n - 1, by omega⟩
    simp only [Nat.add_sub_cancel] at h1 h3
    simp only [bnd, txt, List.length_append]
    rw [if_neg (by omega)]; omega
  | three o p q r ih1 ih2 ih3 =>
    intro n hs hd
    simp only [small] at hs
    simp only [dep] at hd
    have h1 := ih1 (n - 1) hs.1 (by omega)
    have h2 := wrap_len (ok o) p p.txt
    have h3 := ih2 (n - 1) hs.2.1 (by omega)
    have h4 := wrap_len (ok o) q q.txt
    have h6 := ih3 (n - 1) hs.2.2 (by omega)
    have h7 := wrap_len (ok o) r r.txt
    have h5 : (sepT o).length = 3 := by cases o <;> rfl
    have hp := dep_pos p
    obtain ⟨m, rfl⟩ : ∃ m, n = m + 1 := ⟨n - 1, by omega⟩
    simp only [Nat.add_sub_cancel] at h1 h3 h6
    simp only [bnd, txt, List.length_append]
    rw [if_neg (by omega)]; omega
theorem txt_400 {x : Ex} (hs : x.small) (hd : x.dep ≤ 4) : x.txt.length ≤ 600 := by
  have h := txt_len x 4 hs hd
  have : bnd 4 = 534 := by decide
  omega
theorem txt_3 {x : Ex} (hs : x.small) (hd : x.dep ≤ 3) : x.txt.length ≤ 400 := by
  have h := txt_len x 3 hs hd
  have : bnd 3 = 174 := by decide
  omega
end Ex

/-- An expression's cells. -/
structure ExV where
  k : Int
  a : Int
  b : Int
  c : Int
  d : Int
  x : Int
  sa : Option Addr
  n : Nat
  cap : Nat
def exL (v : ExV) : List Value := [.int .i64 v.k, .int .i64 v.a, .int .i64 v.b, .int .i64 v.c, .int .i64 v.d, .int .i64 v.x, .slice v.sa v.n v.cap]
theorem exL_len (v : ExV) : (exL v).length = 7 := rfl
def ev0 : ExV := ⟨0, 0, 0, 0, 0, 0, none, 0, 0⟩
theorem exL_one : ∀ v, ∀ u ∈ exL v, u.oneCell' = true := fun v u hu => by
  simp only [exL, List.mem_cons, List.not_mem_nil, or_false] at hu
  rcases hu with rfl | rfl | rfl | rfl | rfl | rfl | rfl <;> rfl
/-- An expression in memory. -/
def IsEx (w : World) : Ex → ExV → Prop
  | .inn a b c d, v => v = ⟨1, a, b, c, d, 0, none, 0, 0⟩
  | .hv x, v => v = ⟨2, 0, 0, 0, 0, x, none, 0, 0⟩
  | .not p, v => ∃ sa cap vp, v = ⟨5, 0, 0, 0, 0, 0, sa, 1, cap⟩ ∧ SlF exL 7 w sa 1 cap [vp] ∧ IsEx w p vp
  | .two o p q, v => ∃ sa cap vp vq, v = ⟨Ex.ok o, 0, 0, 0, 0, 0, sa, 2, cap⟩ ∧ SlF exL 7 w sa 2 cap [vp, vq] ∧ IsEx w p vp ∧ IsEx w q vq
  | .three o p q r, v => ∃ sa cap vp vq vr, v = ⟨Ex.ok o, 0, 0, 0, 0, 0, sa, 3, cap⟩ ∧ SlF exL 7 w sa 3 cap [vp, vq, vr] ∧ IsEx w p vp ∧ IsEx w q vq ∧ IsEx w r vr
theorem IsEx.below {w w' : World} (hb : Below w.heap.size w w') : ∀ {x : Ex} {v : ExV}, IsEx w x v → IsEx w' x v
  | .inn .., v, h => h
  | .hv _, v, h => h
  | .not p, v, h => by
    obtain ⟨sa, cap, vp, h1, h2, h3⟩ := h
    exact ⟨sa, cap, vp, h1, h2.below hb, IsEx.below hb h3⟩
  | .two o p q, v, h => by
    obtain ⟨sa, cap, vp, vq, h1, h2, h3, h4⟩ := h
    exact ⟨sa, cap, vp, vq, h1, h2.below hb, IsEx.below hb h3, IsEx.below hb h4⟩
  | .three o p q r, v, h => by
    obtain ⟨sa, cap, vp, vq, vr, h1, h2, h3, h4, h5⟩ := h
    exact ⟨sa, cap, vp, vq, vr, h1, h2.below hb, IsEx.below hb h3, IsEx.below hb h4, IsEx.below hb h5⟩
theorem slF_nil (w : World) : SlF exL 7 w none 0 0 [] := ⟨rfl, Nat.le_refl _, Nat.zero_le _, fun _ => rfl, fun i hi => absurd hi (by simp [flat])⟩
theorem IsEx.view {w : World} {x : Ex} {v : ExV} (h : IsEx w x v) : ∃ vs : List ExV, v = ⟨x.kind, x.rx0, x.ry0, x.rx1, x.ry1, x.wt, v.sa, x.parts.length, v.cap⟩ ∧ SlF exL 7 w v.sa x.parts.length v.cap vs ∧ vs.length = x.parts.length ∧ ∀ i (hi : i < x.parts.length), IsEx w x.parts[i] (vs.getD i ev0) := by
  cases x with
  | inn a b c d => obtain rfl := h; exact ⟨[], rfl, slF_nil w, rfl, fun i hi => absurd hi (by simp [Ex.parts])⟩
  | hv y => obtain rfl := h; exact ⟨[], rfl, slF_nil w, rfl, fun i hi => absurd hi (by simp [Ex.parts])⟩
  | not p =>
    obtain ⟨sa, cap, vp, rfl, h2, h3⟩ := h
    refine ⟨[vp], rfl, h2, rfl, fun i hi => ?_⟩
    obtain rfl : i = 0 := by simp [Ex.parts] at hi; omega
    exact h3
  | two o p q =>
    obtain ⟨sa, cap, vp, vq, rfl, h2, h3, h4⟩ := h
    refine ⟨[vp, vq], rfl, h2, rfl, fun i hi => ?_⟩
    rcases (show i = 0 ∨ i = 1 by simp [Ex.parts] at hi; omega) with rfl | rfl
    · exact h3
    · exact h4
  | three o p q r =>
    obtain ⟨sa, cap, vp, vq, vr, rfl, h2, h3, h4, h5⟩ := h
    refine ⟨[vp, vq, vr], rfl, h2, rfl, fun i hi => ?_⟩
    rcases (show i = 0 ∨ i = 1 ∨ i = 2 by simp [Ex.parts] at hi; omega) with rfl | rfl | rfl
    · exact h3
    · exact h4
    · exact h5

end Go.Proofs.YtakabjkhcdkkjaaDoor

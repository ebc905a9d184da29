import Derived.Test.YtedchegejalolaaGreatDoorMb3
import Derived.Test.YtedchegejalolaaGreatDoorMb4
import Derived.Test.YtedchegejalolaaGreatDoorMb0
/- Pick's law, in plain Lean: the lattice points of a polygon; what has a place more is larger. -/
namespace Go.Proofs.YtedchegejalolaaGreatDoor.Pick
set_option linter.unusedVariables false
def tz (a b : Pt) (x y : Int) : Int := (b.x - a.x) * (y - a.y) - (b.y - a.y) * (x - a.x)
def lxq (a b : Pt) : Prop := a.x < b.x ∨ (a.x = b.x ∧ a.y < b.y)
structure Conv (D : Nat → Pt) (n : Nat) : Prop where
  hold : ∀ i, i + 1 < n → ∀ j, j < n → 0 ≤ tz (D i) (D (i + 1)) (D j).x (D j).y
  fan : ∀ k, 1 ≤ k → k + 1 < n → 0 < tz (D 0) (D k) (D (k + 1)).x (D (k + 1)).y
  ord : ∀ m k, 1 ≤ m → m ≤ k → k < n → 0 ≤ tz (D 0) (D m) (D k).x (D k).y
  low : ∀ k, 1 ≤ k → k < n → lxq (D 0) (D k)
def areaK (D : Nat → Pt) : Nat → Int
  | 0 => 0
  | k + 1 => areaK D k + tz (D 0) (D (k + 1)) (D (k + 2)).x (D (k + 2)).y
/-- The sum of the edges is the area. -/
def crossP (a b : Pt) : Int := a.x * b.y - a.y * b.x
end Go.Proofs.YtedchegejalolaaGreatDoor.Pick

/- Hulls: the plain facts. A side is a stack by which one goes to the left alone; two sides are a fence that holds all. -/
namespace Go.Proofs.YtedchegejalolaaGreatDoor
set_option linter.unusedVariables false
open Go.RowKit

/-- The turn from a by b to c. -/
def turnP (a b c : Pt) : Int := (b.x - a.x) * (c.y - a.y) - (b.y - a.y) * (c.x - a.x)
/-- a stands ahead of b. -/
def lx (a b : Pt) : Prop := a.x < b.x ∨ (a.x = b.x ∧ a.y < b.y)
/-- a stands ahead of b, or where b is. -/
def lx0 (a b : Pt) : Prop := a.x < b.x ∨ (a.x = b.x ∧ a.y ≤ b.y)
theorem lx_lx0 {a b : Pt} (h : lx a b) : lx0 a b := by unfold lx lx0 at *; omega
theorem lx0_refl (a : Pt) : lx0 a a := by unfold lx0; omega
theorem lx0_not {a b : Pt} (h : ¬ lx a b) : lx0 b a := by unfold lx lx0 at *; omega
theorem lx_trans {a b c : Pt} (h : lx a b) (k : lx b c) : lx a c := by unfold lx at *; omega
theorem lx0_lx {a b c : Pt} (h : lx0 a b) (k : lx b c) : lx a c := by unfold lx lx0 at *; omega
theorem cross_tr (ux uy vx vy wx wy : Int) (hu : 0 < ux ∨ (ux = 0 ∧ 0 ≤ uy)) (hv : 0 < vx ∨ (vx = 0 ∧ 0 < vy)) (hw : 0 < wx ∨ (wx = 0 ∧ 0 ≤ wy))
    (h1 : 0 ≤ ux * vy - uy * vx) (h2 : 0 ≤ vx * wy - vy * wx) : 0 ≤ ux * wy - uy * wx := by
  rcases hv with hv | ⟨hv, hvy⟩
  · have e : vx * (ux * wy - uy * wx) = wx * (ux * vy - uy * vx) + ux * (vx * wy - vy * wx) := by grind
    have hw0 : 0 ≤ wx := by omega
    have hu0 : 0 ≤ ux := by omega
    have := Int.mul_nonneg hw0 h1
    have := Int.mul_nonneg hu0 h2
    by_cases hc : ux * wy - uy * wx < 0
    · have := Int.mul_neg_of_pos_of_neg hv hc
      omega
    · omega
  · subst hv
    have hwx : wx = 0 := by
      by_cases h : 0 < wx
      · have := Int.mul_pos hvy h
        omega
      · omega
    subst hwx
    have hu0 : 0 ≤ ux := by omega
    have hw0 : 0 ≤ wy := by omega
    have := Int.mul_nonneg hu0 hw0
    omega
/-- b is popped: c is below a b. -/
theorem turn_pop {a b c p : Pt} (hab : lx a b) (hbc : lx b c) (h : turnP a b c ≤ 0) (hp : lx0 b p) (hpc : lx0 p c) (hi : 0 ≤ turnP b c p) : 0 ≤ turnP a c p := by
  unfold lx lx0 turnP at *
  have := cross_tr (c.x - p.x) (c.y - p.y) (c.x - b.x) (c.y - b.y) (c.x - a.x) (c.y - a.y) (by omega) (by omega) (by omega) (by grind) (by grind)
  grind
theorem turn_pop2 {a b c p : Pt} (hab : lx a b) (hbc : lx b c) (h : turnP a b c ≤ 0) (hp : lx0 a p) (hi : 0 ≤ turnP a b p) : 0 ≤ turnP a c p := by
  unfold lx lx0 turnP at *
  have := cross_tr (c.x - a.x) (c.y - a.y) (b.x - a.x) (b.y - a.y) (p.x - a.x) (p.y - a.y) (by omega) (by omega) (by omega) (by grind) (by grind)
  grind
theorem turn_push {a t c p : Pt} (hat : lx a t) (htc : lx t c) (hpt : lx0 p t) (h1 : 0 ≤ turnP a t c) (h2 : 0 ≤ turnP a t p) : 0 ≤ turnP t c p := by
  unfold lx lx0 turnP at *
  have := cross_tr (t.x - p.x) (t.y - p.y) (t.x - a.x) (t.y - a.y) (c.x - t.x) (c.y - t.y) (by omega) (by omega) (by omega) (by grind) (by grind)
  grind
theorem turn_up {z a b c : Pt} (hza : lx z a) (hab : lx a b) (hbc : lx b c) (h1 : 0 ≤ turnP z a b) (h2 : 0 ≤ turnP a b c) : 0 ≤ turnP z a c := by
  unfold lx turnP at *
  have := cross_tr (a.x - z.x) (a.y - z.y) (b.x - a.x) (b.y - a.y) (c.x - a.x) (c.y - a.y) (by omega) (by omega) (by omega) (by grind) (by grind)
  grind
/-- The stack, once c comes. -/
def popL (g : Nat → Pt) (c : Nat) : List Nat → List Nat
  | b :: a :: r => if turnP (g a) (g b) (g c) ≤ 0 then popL g c (a :: r) else b :: a :: r
  | s => s
def Conv (g : Nat → Pt) : List Nat → Prop
  | c :: b :: a :: r => 0 < turnP (g a) (g b) (g c) ∧ Conv g (b :: a :: r)
  | _ => True
def Hold (g : Nat → Pt) (D : List Nat) : List Nat → Prop
  | b :: a :: r => (∀ p ∈ D, 0 ≤ turnP (g a) (g b) (g p)) ∧ Hold g D (a :: r)
  | _ => True
theorem Conv.tail {g : Nat → Pt} {c : Nat} {r : List Nat} (h : Conv g (c :: r)) : Conv g r := by
  cases r with
  | nil => trivial
  | cons b r => cases r with
    | nil => trivial
    | cons a r => exact h.2
theorem Hold.tail {g : Nat → Pt} {D : List Nat} {c : Nat} {r : List Nat} (h : Hold g D (c :: r)) : Hold g D r := by
  cases r with
  | nil => trivial
  | cons b r => exact h.2
/-- What is known of the stack S behind the points D: t on top, z at the bottom. -/
structure Chain (g : Nat → Pt) (D S : List Nat) : Prop where
  sort : S.Pairwise fun b a => lx (g a) (g b)
  conv : Conv g S
  hold : Hold g D S
  sub : ∀ s ∈ S, s ∈ D
  last : ∀ p ∈ D, ∃ z, S.getLast? = some z ∧ lx0 (g z) (g p)
  first : ∀ p ∈ D, ∃ t, S.head? = some t ∧ lx0 (g p) (g t)
theorem pop_spec {g : Nat → Pt} {D : List Nat} {c : Nat} (hc : ∀ p ∈ D, lx (g p) (g c)) : ∀ (S : List Nat) (t : Nat) (r : List Nat), S = t :: r → S.Pairwise (fun b a => lx (g a) (g b)) → Conv g S → Hold g D S → (∀ s ∈ S, s ∈ D) →
    (∀ p ∈ D, lx0 (g t) (g p) → 0 ≤ turnP (g t) (g c) (g p)) →
    ∃ t' r', popL g c S = t' :: r' ∧ (t' :: r').Pairwise (fun b a => lx (g a) (g b)) ∧ Conv g (t' :: r') ∧ Hold g D (t' :: r') ∧ (∀ s ∈ t' :: r', s ∈ D) ∧ (∀ p ∈ D, lx0 (g t') (g p) → 0 ≤ turnP (g t') (g c) (g p)) ∧ (∀ a q, r' = a :: q → 0 < turnP (g a) (g t') (g c)) ∧ (t' :: r').getLast? = S.getLast? ∧ (t' :: r') <:+ S := by
  intro S
  induction S with
  | nil => intro t r h; cases h
  | cons b S ih =>
    intro t r e hs hcv hh hsub hi
    simp only [List.cons.injEq] at e
    obtain ⟨rfl, rfl⟩ := e
    cases S with
    | nil => exact ⟨b, [], rfl, hs, hcv, hh, hsub, hi, (fun a q h => by cases h), rfl, List.suffix_refl _⟩
    | cons a S =>
      by_cases hle : turnP (g a) (g b) (g c) ≤ 0
      · have hab : lx (g a) (g b) := (List.pairwise_cons.1 hs).1 a (by simp)
        have hbD := hsub b (by simp)
        obtain ⟨t', r', h1, h2, h3, h4, h5, h6, h7, h8, h9⟩ := ih a S rfl (List.pairwise_cons.1 hs).2 hcv.tail hh.2 (fun s h => hsub s (by simp only [List.mem_cons] at h ⊢; exact .inr h)) (fun p hp hap => by
          by_cases hpb : lx (g p) (g b)
          · exact turn_pop2 hab (hc b hbD) hle hap (hh.1 p hp)
          · exact turn_pop hab (hc b hbD) hle (lx0_not hpb) (lx_lx0 (hc p hp)) (hi p hp (lx0_not hpb)))
        refine ⟨t', r', by rw [popL, if_pos hle]; exact h1, h2, h3, h4, h5, h6, h7, by rw [h8]; simp, h9.trans (List.suffix_cons _ _)⟩
      · exact ⟨b, a :: S, by rw [popL, if_neg hle], hs, hcv, hh, hsub, hi, (fun a' q h => by cases h; omega), rfl, List.suffix_refl _⟩
theorem hold_new {g : Nat → Pt} {D : List Nat} {c : Nat} : ∀ (S : List Nat) (b a : Nat) (r : List Nat), S = b :: a :: r → S.Pairwise (fun b a => lx (g a) (g b)) → Conv g S → Hold g D S → lx (g b) (g c) → 0 ≤ turnP (g a) (g b) (g c) → Hold g (c :: D) S := by
  intro S
  induction S with
  | nil => intro b a r h; cases h
  | cons b S ih =>
    intro b' a r e hs hcv hh hbc h0
    simp only [List.cons.injEq] at e
    obtain ⟨rfl, rfl⟩ := e
    refine ⟨fun p hp => ?_, ?_⟩
    · rcases List.mem_cons.1 hp with rfl | hp
      · exact h0
      · exact hh.1 p hp
    · cases r with
      | nil => trivial
      | cons z r =>
        have hs2 := (List.pairwise_cons.1 hs).2
        have hab : lx (g a) (g b) := (List.pairwise_cons.1 hs).1 a (by simp)
        have hza : lx (g z) (g a) := (List.pairwise_cons.1 hs2).1 z (by simp)
        exact ih a z r rfl hs2 hcv.2 hh.2 (lx_trans hab hbc) (turn_up hza hab hbc (by have := hcv.1; omega) h0)
theorem turn_same (a c : Pt) : turnP a c c = 0 := by unfold turnP; grind
theorem turn_at {a c p : Pt} (h : ¬ lx a p) (h' : ¬ lx p a) : turnP a c p = 0 := by
  unfold lx turnP at *
  rw [show p.x = a.x by omega, show p.y = a.y by omega]; grind
theorem Chain.step {g : Nat → Pt} {D S : List Nat} (h : Chain g D S) (c : Nat) (hc : ∀ p ∈ D, lx (g p) (g c)) (hne : S ≠ []) : Chain g (c :: D) (c :: popL g c S) := by
  obtain ⟨t, r, rfl⟩ : ∃ t r, S = t :: r := by
    cases S with
    | nil => exact absurd rfl hne
    | cons t r => exact ⟨t, r, rfl⟩
  obtain ⟨t', r', h1, h2, h3, h4, h5, h6, h7, h8, h9⟩ := pop_spec hc (t :: r) t r rfl h.sort h.conv h.hold h.sub (fun p hp htp => by
    obtain ⟨t2, e, hpt⟩ := h.first p hp
    cases e
    rw [turn_at (by unfold lx lx0 at *; omega) (by unfold lx lx0 at *; omega)]
    exact Int.le_refl 0)
  rw [h1]
  have ht'c : lx (g t') (g c) := hc t' (h5 t' (by simp))
  have hlast : ∀ p ∈ D, ∃ z, (t' :: r').getLast? = some z ∧ lx0 (g z) (g p) := fun p hp => by rw [h8]; exact h.last p hp
  have hhold : Hold g (c :: D) (t' :: r') := by
    cases r' with
    | nil => trivial
    | cons a q => exact hold_new (t' :: a :: q) t' a q rfl h2 h3 h4 ht'c (by have := h7 a q rfl; omega)
  refine ⟨List.pairwise_cons.2 ⟨fun s hs => hc s (h5 s hs), h2⟩, ?_, ⟨fun p hp => ?_, hhold⟩, fun s hs => ?_, fun p hp => ?_, fun p hp => ⟨c, rfl, ?_⟩⟩
  · cases r' with
    | nil => trivial
    | cons a q => exact ⟨h7 a q rfl, h3⟩
  · rcases List.mem_cons.1 hp with rfl | hp
    · rw [turn_same]; exact Int.le_refl 0
    · by_cases htp : lx (g p) (g t')
      · cases r' with
        | nil =>
          obtain ⟨z, e, hz⟩ := hlast p hp
          have e2 : t' = z := by simpa using e
          rw [← e2] at hz
          unfold lx lx0 at *; omega
        | cons a q =>
          exact turn_push ((List.pairwise_cons.1 h2).1 a (by simp)) ht'c (lx_lx0 htp) (by have := h7 a q rfl; omega) (h4.1 p hp)
      · exact h6 p hp (lx0_not htp)
  · rcases List.mem_cons.1 hs with rfl | hs
    · simp
    · exact List.mem_cons_of_mem _ (h5 s hs)
  · rcases List.mem_cons.1 hp with rfl | hp
    · obtain ⟨z, e, hz⟩ := hlast t' (h5 t' (by simp))
      refine ⟨z, by rw [List.getLast?_cons_cons]; exact e, lx_lx0 (lx0_lx hz ht'c)⟩
    · obtain ⟨z, e, hz⟩ := hlast p hp
      exact ⟨z, by rw [List.getLast?_cons_cons]; exact e, hz⟩
  · rcases List.mem_cons.1 hp with rfl | hp
    · exact lx0_refl _
    · exact lx_lx0 (hc p hp)
/-- The stack behind all of a row. -/
def sideS (g : Nat → Pt) (S : List Nat) (l : List Nat) : List Nat := l.foldl (fun S c => c :: popL g c S) S
theorem side_chain {g : Nat → Pt} : ∀ (l D S : List Nat), Chain g D S → S ≠ [] → (∀ p ∈ D, ∀ c ∈ l, lx (g p) (g c)) → l.Pairwise (fun a b => lx (g a) (g b)) → Chain g (l.reverse ++ D) (sideS g S l) := by
  intro l
  induction l with
  | nil => intro D S h _ _ _; exact h
  | cons c l ih =>
    intro D S h hne hD hl
    have h1 := h.step c (fun p hp => hD p hp c (by simp)) hne
    have h2 := ih (c :: D) (c :: popL g c S) h1 (by simp) (fun p hp c' hc' => by
      rcases List.mem_cons.1 hp with rfl | hp
      · exact (List.pairwise_cons.1 hl).1 c' hc'
      · exact hD p hp c' (by simp [hc'])) (List.pairwise_cons.1 hl).2
    rw [List.reverse_cons, List.append_assoc]
    exact h2
theorem side_all {g : Nat → Pt} (l : List Nat) (hne : l ≠ []) (hl : l.Pairwise (fun a b => lx (g a) (g b))) : Chain g l.reverse (sideS g [] l) := by
  cases l with
  | nil => exact absurd rfl hne
  | cons c l =>
    have h0 : Chain g [c] [c] := ⟨List.pairwise_singleton _ _, trivial, trivial, fun s h => h, fun p hp => ⟨c, rfl, by rw [List.mem_singleton.1 hp]; exact lx0_refl _⟩, fun p hp => ⟨c, rfl, by rw [List.mem_singleton.1 hp]; exact lx0_refl _⟩⟩
    have := side_chain l [c] [c] h0 (by simp) (fun p hp c' hc' => by rw [List.mem_singleton.1 hp]; exact (List.pairwise_cons.1 hl).1 c' hc') (List.pairwise_cons.1 hl).2
    rw [List.reverse_cons]
    exact this
/-- The point on the other side of the middle. -/
def negP (p : Pt) : Pt := ⟨-p.x, -p.y, p.w⟩
theorem turn_neg (a b c : Pt) : turnP (negP a) (negP b) (negP c) = turnP a b c := by unfold turnP negP; grind
theorem lx_neg {a b : Pt} (h : lx a b) : lx (negP b) (negP a) := by unfold lx negP at *; simp only; omega
theorem pop_neg (g : Nat → Pt) (c : Nat) : ∀ S, popL (fun i => negP (g i)) c S = popL g c S := by
  intro S
  induction S with
  | nil => rfl
  | cons b S ih =>
    cases S with
    | nil => rfl
    | cons a S =>
      rw [popL, popL, turn_neg, ih]
theorem side_neg (g : Nat → Pt) (l : List Nat) : ∀ S, sideS (fun i => negP (g i)) S l = sideS g S l := by
  induction l with
  | nil => intro S; rfl
  | cons c l ih =>
    intro S
    show sideS (fun i => negP (g i)) (c :: popL (fun i => negP (g i)) c S) l = sideS g (c :: popL g c S) l
    rw [pop_neg]; exact ih _
theorem pop_last (g : Nat → Pt) (c : Nat) : ∀ S, (popL g c S).getLast? = S.getLast? := by
  intro S
  induction S with
  | nil => rfl
  | cons b S ih =>
    cases S with
    | nil => rfl
    | cons a S =>
      rw [popL]
      by_cases h : turnP (g a) (g b) (g c) ≤ 0
      · rw [if_pos h, ih, List.getLast?_cons_cons]
      · rw [if_neg h]
theorem pop_ne (g : Nat → Pt) (c : Nat) (S : List Nat) (h : S ≠ []) : popL g c S ≠ [] := by
  intro e
  have := pop_last g c S
  rw [e] at this
  simp only [List.getLast?_nil] at this
  exact h (List.getLast?_eq_none_iff.1 this.symm)
theorem side_last (g : Nat → Pt) : ∀ (l S : List Nat), S ≠ [] → (sideS g S l).getLast? = S.getLast? := by
  intro l
  induction l with
  | nil => intro S _; rfl
  | cons c l ih =>
    intro S h
    show (sideS g (c :: popL g c S) l).getLast? = _
    rw [ih _ (by simp)]
    have hn := pop_ne g c S h
    have := pop_last g c S
    cases hp : popL g c S with
    | nil => exact absurd hp hn
    | cons b r => rw [List.getLast?_cons_cons, ← hp, this]
theorem side_head (g : Nat → Pt) : ∀ (l S : List Nat), (sideS g S l).head? = if l = [] then S.head? else l.getLast? := by
  intro l
  induction l with
  | nil => intro S; simp [sideS]
  | cons c l ih =>
    intro S
    show (sideS g (c :: popL g c S) l).head? = _
    rw [ih]
    cases l with
    | nil => simp
    | cons d l => simp
/-- What one side of the hull of O is, told by places. -/
structure IsSide (g : Nat → Pt) (O L : List Nat) : Prop where
  len : 0 < L.length
  up : ∀ i, i + 1 < L.length → lx (g (L.getD i 0)) (g (L.getD (i + 1) 0))
  hold : ∀ i, i + 1 < L.length → ∀ p ∈ O, 0 ≤ turnP (g (L.getD i 0)) (g (L.getD (i + 1) 0)) (g p)
  left : ∀ i, i + 2 < L.length → 0 < turnP (g (L.getD i 0)) (g (L.getD (i + 1) 0)) (g (L.getD (i + 2) 0))
  sub : ∀ i, i < L.length → L.getD i 0 ∈ O
  first : L.getD 0 0 = O.getD 0 0
  last : L.getD (L.length - 1) 0 = O.getD (O.length - 1) 0
theorem getD_rev (S : List Nat) (i : Nat) (h : i < S.length) : S.reverse.getD i 0 = S.getD (S.length - 1 - i) 0 := by
  rw [getD_at _ _ (by simpa using h), getD_at _ _ (by omega), List.getElem_reverse]
theorem conv_at {g : Nat → Pt} : ∀ (S : List Nat), Conv g S → ∀ i, i + 2 < S.length → 0 < turnP (g (S.getD (i + 2) 0)) (g (S.getD (i + 1) 0)) (g (S.getD i 0)) := by
  intro S
  induction S with
  | nil => intro _ i hi; simp at hi
  | cons c S ih =>
    intro h i hi
    cases i with
    | zero =>
      match S, h, hi with
      | b :: a :: r, h, _ => simpa using h.1
      | [b], _, hi => simp at hi
      | [], _, hi => simp at hi
    | succ i =>
      have := ih h.tail i (by simp only [List.length_cons] at hi; omega)
      simpa using this
theorem hold_at {g : Nat → Pt} {D : List Nat} : ∀ (S : List Nat), Hold g D S → ∀ i, i + 1 < S.length → ∀ p ∈ D, 0 ≤ turnP (g (S.getD (i + 1) 0)) (g (S.getD i 0)) (g p) := by
  intro S
  induction S with
  | nil => intro _ i hi; simp at hi
  | cons c S ih =>
    intro h i hi p hp
    cases i with
    | zero =>
      match S, h, hi with
      | a :: r, h, _ => simpa using h.1 p hp
      | [], _, hi => simp at hi
    | succ i =>
      have := ih h.tail i (by simp only [List.length_cons] at hi; omega) p hp
      simpa using this
theorem side_is {g : Nat → Pt} (O : List Nat) (hne : O ≠ []) (hl : O.Pairwise (fun a b => lx (g a) (g b))) : IsSide g O (sideS g [] O).reverse := by
  have h := side_all O hne hl
  obtain ⟨c, l, rfl⟩ : ∃ c l, O = c :: l := by
    cases O with
    | nil => exact absurd rfl hne
    | cons c l => exact ⟨c, l, rfl⟩
  have hla : (sideS g [] (c :: l)).getLast? = some c := by
    show (sideS g [c] l).getLast? = _
    rw [side_last g l [c] (by simp)]; rfl
  have hhd := side_head g (c :: l) []
  rw [if_neg (by simp)] at hhd
  generalize sideS g [] (c :: l) = S at *
  have hS : S ≠ [] := fun e => by rw [e] at hla; simp at hla
  have hlen : 0 < S.length := List.length_pos_iff.2 hS
  have hmem : ∀ p, p ∈ (c :: l).reverse ↔ p ∈ c :: l := fun p => List.mem_reverse
  refine ⟨by simpa using hlen, fun i hi => ?_, fun i hi p hp => ?_, fun i hi => ?_, fun i hi => ?_, ?_, ?_⟩
  · rw [List.length_reverse] at hi
    rw [getD_rev _ _ (by omega), getD_rev _ _ (by omega), getD_at _ _ (by omega), getD_at _ _ (by omega)]
    exact List.pairwise_iff_getElem.1 h.sort (S.length - 1 - (i + 1)) (S.length - 1 - i) (by omega) (by omega) (by omega)
  · rw [List.length_reverse] at hi
    rw [getD_rev _ _ (by omega), getD_rev _ _ (by omega)]
    have := hold_at S h.hold (S.length - 1 - (i + 1)) (by omega) p ((hmem p).2 hp)
    rwa [show S.length - 1 - (i + 1) + 1 = S.length - 1 - i by omega] at this
  · rw [List.length_reverse] at hi
    rw [getD_rev _ _ (by omega), getD_rev _ _ (by omega), getD_rev _ _ (by omega)]
    have := conv_at S h.conv (S.length - 1 - (i + 2)) (by omega)
    rwa [show S.length - 1 - (i + 2) + 2 = S.length - 1 - i by omega, show S.length - 1 - (i + 2) + 1 = S.length - 1 - (i + 1) by omega] at this
  · rw [List.length_reverse] at hi
    rw [getD_rev _ _ (by omega), getD_at _ _ (by omega)]
    exact (hmem _).1 (h.sub _ (List.getElem_mem _))
  · rw [getD_rev _ _ hlen]
    rw [List.getLast?_eq_getElem?] at hla
    simp only [Nat.sub_zero, List.getD_cons_zero]
    simp [List.getD, hla]
  · rw [List.length_reverse, getD_rev _ _ (by omega), show S.length - 1 - (S.length - 1) = 0 by omega]
    rw [List.getLast?_eq_getElem?] at hhd
    rw [List.head?_eq_getElem?] at hhd
    simp only [List.getD, hhd]
theorem side_is_back {g : Nat → Pt} (O : List Nat) (hne : O ≠ []) (hl : O.Pairwise (fun a b => lx (g a) (g b))) : IsSide (fun i => negP (g i)) O.reverse (sideS g [] O.reverse).reverse := by
  rw [← side_neg g O.reverse []]
  refine side_is O.reverse (by simpa using hne) ?_
  rw [List.pairwise_reverse]
  exact hl.imp (fun h => lx_neg h)
theorem cross_id1 (ux uy vx vy wx wy : Int) : ux * (vx * wy - vy * wx) - vx * (ux * wy - uy * wx) = - wx * (ux * vy - uy * vx) := by grind
theorem cross_id2 (ux uy vx vy wx wy : Int) : uy * (vx * wy - vy * wx) - vy * (ux * wy - uy * wx) = - wy * (ux * vy - uy * vx) := by grind
theorem turn_join {a b z q : Pt} (ha : lx a z) (hb : lx b z) (hab : 0 ≤ turnP a z b) (h1 : 0 ≤ turnP a z q) (h2 : 0 ≤ turnP z b q) (h3 : 0 < turnP a z q ∨ 0 < turnP z b q) : 0 < turnP a z b := by
  have e1 : turnP a z q = (z.x - a.x) * (q.y - z.y) - (z.y - a.y) * (q.x - z.x) := by unfold turnP; grind
  have e2 : turnP z b q = - ((z.x - b.x) * (q.y - z.y) - (z.y - b.y) * (q.x - z.x)) := by unfold turnP; grind
  have e3 : turnP a z b = - ((z.x - a.x) * (z.y - b.y) - (z.y - a.y) * (z.x - b.x)) := by unfold turnP; grind
  rw [e1] at h1 h3
  rw [e2] at h2 h3
  rw [e3] at hab ⊢
  unfold lx at ha hb
  have hu : 0 < z.x - a.x ∨ (z.x - a.x = 0 ∧ 0 < z.y - a.y) := by omega
  have hv : 0 < z.x - b.x ∨ (z.x - b.x = 0 ∧ 0 < z.y - b.y) := by omega
  clear ha hb e1 e2 e3
  generalize z.x - a.x = ux at *
  generalize z.y - a.y = uy at *
  generalize z.x - b.x = vx at *
  generalize z.y - b.y = vy at *
  generalize q.x - z.x = wx at *
  generalize q.y - z.y = wy at *
  by_cases h : 0 < -(ux * vy - uy * vx)
  · exact h
  · exfalso
    have h0 : ux * vy - uy * vx = 0 := by omega
    have i1 : ux * (vx * wy - vy * wx) = vx * (ux * wy - uy * wx) := by
      have e := cross_id1 ux uy vx vy wx wy
      rw [h0, Int.mul_zero] at e; omega
    have i2 : uy * (vx * wy - vy * wx) = vy * (ux * wy - uy * wx) := by
      have e := cross_id2 ux uy vx vy wx wy
      rw [h0, Int.mul_zero] at e; omega
    have n1 : vx * wy - vy * wx ≤ 0 := by omega
    have key : ∀ s t : Int, 0 < s → 0 < t → s * (vx * wy - vy * wx) = t * (ux * wy - uy * wx) → False := by
      intro s t hs ht e
      have k1 : 0 ≤ t * (ux * wy - uy * wx) := Int.mul_nonneg (by omega) h1
      have k2 : s * (vx * wy - vy * wx) ≤ 0 := Int.mul_nonpos_of_nonneg_of_nonpos (by omega) n1
      have k3 : t * (ux * wy - uy * wx) = 0 := by omega
      have k4 : s * (vx * wy - vy * wx) = 0 := by omega
      rcases Int.mul_eq_zero.1 k3 with k | k
      · omega
      · rcases Int.mul_eq_zero.1 k4 with k' | k'
        · omega
        · omega
    rcases hu with hu | ⟨hu, hu'⟩
    · rcases hv with hv | ⟨hv, hv'⟩
      · exact key ux vx hu hv i1
      · subst hv
        have := Int.mul_pos hu hv'
        omega
    · rcases hv with hv | ⟨hv, hv'⟩
      · subst hu
        have := Int.mul_pos hu' hv
        omega
      · exact key uy vy hu' hv' i2
/-- The hull of O, told by places. -/
structure IsFence (g : Nat → Pt) (O C : List Nat) : Prop where
  len : 2 ≤ C.length
  sub : ∀ i, i < C.length → C.getD i 0 ∈ O
  hold : ∀ i, i < C.length → ∀ p ∈ O, 0 ≤ turnP (g (C.getD i 0)) (g (C.getD ((i + 1) % C.length) 0)) (g p)
  left : 3 ≤ C.length → ∀ i, i < C.length → 0 < turnP (g (C.getD i 0)) (g (C.getD ((i + 1) % C.length) 0)) (g (C.getD ((i + 2) % C.length) 0))
  far : ∀ a b : Int, ∀ p ∈ O, ∃ i, i < C.length ∧ a * (g p).x + b * (g p).y ≤ a * (g (C.getD i 0)).x + b * (g (C.getD i 0)).y
theorem turn_cyc (a b c : Pt) : turnP b c a = turnP a b c := by unfold turnP; grind
/-- Where one side ends and the other one begins. -/
theorem side_join {g : Nat → Pt} {O L U : List Nat} (hL : IsSide g O L) (hU : IsSide (fun i => negP (g i)) O.reverse U) (l2 : 2 ≤ L.length) (u2 : 2 ≤ U.length) (h3 : 3 ≤ L.length ∨ 3 ≤ U.length) (hz : L.getD (L.length - 1) 0 = U.getD 0 0) :
    0 < turnP (g (L.getD (L.length - 2) 0)) (g (U.getD 0 0)) (g (U.getD 1 0)) := by
  have hm : ∀ p, p ∈ O.reverse ↔ p ∈ O := fun p => List.mem_reverse
  have e1 := hL.up (L.length - 2) (by omega)
  rw [show L.length - 2 + 1 = L.length - 1 by omega, hz] at e1
  have e2 := hU.up 0 (by omega)
  have e2' : lx (g (U.getD 1 0)) (g (U.getD 0 0)) := by
    unfold lx negP at *; simp only [Nat.zero_add] at e2; omega
  have hh := hL.hold (L.length - 2) (by omega)
  rw [show L.length - 2 + 1 = L.length - 1 by omega, hz] at hh
  have hk : ∀ p ∈ O, 0 ≤ turnP (g (U.getD 0 0)) (g (U.getD 1 0)) (g p) := fun p hp => by
    have := hU.hold 0 (by omega) p ((hm p).2 hp)
    rwa [turn_neg] at this
  rcases h3 with h3 | h3
  · have hq := hL.sub (L.length - 3) (by omega)
    refine turn_join e1 e2' (hh _ ((hm _).1 (hU.sub 1 (by omega)))) (hh _ hq) (hk _ hq) (.inl ?_)
    have := hL.left (L.length - 3) (by omega)
    rw [show L.length - 3 + 1 = L.length - 2 by omega, show L.length - 3 + 2 = L.length - 1 by omega, hz] at this
    rwa [turn_cyc]
  · have hq := (hm _).1 (hU.sub 2 (by omega))
    refine turn_join e1 e2' (hh _ ((hm _).1 (hU.sub 1 (by omega)))) (hh _ hq) (hk _ hq) (.inr ?_)
    have := hU.left 0 (by omega)
    rwa [turn_neg] at this
theorem far_edge {A B p : Pt} {a b : Int} (hb : b ≤ 0) (h1 : lx0 A p) (h2 : lx0 p B) (h : 0 ≤ turnP A B p) (hAB : lx A B) : a * p.x + b * p.y ≤ a * A.x + b * A.y ∨ a * p.x + b * p.y ≤ a * B.x + b * B.y := by
  unfold lx lx0 turnP at *
  by_cases hd : A.x < B.x
  · have k1 : b * ((B.x - A.x) * (p.y - A.y) - (B.y - A.y) * (p.x - A.x)) ≤ 0 := Int.mul_nonpos_of_nonpos_of_nonneg hb h
    have e : (B.x - A.x) * ((a * p.x + b * p.y) - (a * A.x + b * A.y)) = b * ((B.x - A.x) * (p.y - A.y) - (B.y - A.y) * (p.x - A.x)) + (p.x - A.x) * ((a * B.x + b * B.y) - (a * A.x + b * A.y)) := by grind
    have e' : (B.x - A.x) * ((a * p.x + b * p.y) - (a * B.x + b * B.y)) = b * ((B.x - A.x) * (p.y - A.y) - (B.y - A.y) * (p.x - A.x)) - (B.x - p.x) * ((a * B.x + b * B.y) - (a * A.x + b * A.y)) := by grind
    generalize a * p.x + b * p.y = fp at *
    generalize a * A.x + b * A.y = fA at *
    generalize a * B.x + b * B.y = fB at *
    generalize (B.x - A.x) * (p.y - A.y) - (B.y - A.y) * (p.x - A.x) = T at *
    by_cases hf : fB ≤ fA
    · left
      have k2 : (p.x - A.x) * (fB - fA) ≤ 0 := Int.mul_nonpos_of_nonneg_of_nonpos (by omega) (by omega)
      by_cases hc : fp ≤ fA
      · exact hc
      · have := Int.mul_pos (show 0 < B.x - A.x by omega) (show 0 < fp - fA by omega)
        omega
    · right
      have k2 : 0 ≤ (B.x - p.x) * (fB - fA) := Int.mul_nonneg (by omega) (by omega)
      by_cases hc : fp ≤ fB
      · exact hc
      · have := Int.mul_pos (show 0 < B.x - A.x by omega) (show 0 < fp - fB by omega)
        omega
  · left
    have ex : p.x = A.x := by omega
    rw [ex]
    have : b * p.y ≤ b * A.y := Int.mul_le_mul_of_nonpos_left hb (by omega)
    omega
theorem side_far {g : Nat → Pt} {O L : List Nat} (hL : IsSide g O L) (a b : Int) (hb : b ≤ 0) (p : Nat) (hp : p ∈ O) (h0 : lx0 (g (L.getD 0 0)) (g p)) (h1 : lx0 (g p) (g (L.getD (L.length - 1) 0))) : ∃ i, i < L.length ∧ a * (g p).x + b * (g p).y ≤ a * (g (L.getD i 0)).x + b * (g (L.getD i 0)).y := by
  have key : ∀ k, k < L.length → lx0 (g (L.getD k 0)) (g p) ∨ ∃ i, i < L.length ∧ a * (g p).x + b * (g p).y ≤ a * (g (L.getD i 0)).x + b * (g (L.getD i 0)).y := by
    intro k
    induction k with
    | zero => intro _; exact .inl h0
    | succ k ih =>
      intro hk
      rcases ih (by omega) with h | h
      · by_cases hc : lx (g p) (g (L.getD (k + 1) 0))
        · right
          rcases far_edge (a := a) hb h (lx_lx0 hc) (hL.hold k hk p hp) (hL.up k hk) with h | h
          · exact ⟨k, by omega, h⟩
          · exact ⟨k + 1, hk, h⟩
        · exact .inl (lx0_not hc)
      · exact .inr h
  rcases key (L.length - 1) (by have := hL.len; omega) with h | h
  · refine ⟨L.length - 1, by have := hL.len; omega, ?_⟩
    unfold lx0 at h h1
    rw [show (g p).x = (g (L.getD (L.length - 1) 0)).x by omega, show (g p).y = (g (L.getD (L.length - 1) 0)).y by omega]
    exact Int.le_refl _
  · exact h
theorem fence_at (L U : List Nat) (hl : 0 < L.length) (hz : L.getD (L.length - 1) 0 = U.getD 0 0) (i : Nat) (hi : i + 1 ≤ L.length) (hu : 2 ≤ U.length) : (L.dropLast ++ U.dropLast).getD i 0 = L.getD i 0 := by
  by_cases h : i + 1 < L.length
  · have h1 : i < (L.dropLast ++ U.dropLast).length := by simp; omega
    rw [getD_at _ _ h1, getD_at _ _ (by omega), List.getElem_append_left (by simp; omega), List.getElem_dropLast]
  · have hi' : i = L.length - 1 := by omega
    subst hi'
    rw [hz, getD_at _ _ (by simp; omega), getD_at _ _ (by omega), List.getElem_append_right (by simp), List.getElem_dropLast]
    simp
theorem fence_at2 (L U : List Nat) (j : Nat) (hj : j + 1 < U.length) : (L.dropLast ++ U.dropLast).getD (L.length - 1 + j) 0 = U.getD j 0 := by
  rw [getD_at _ _ (by simp; omega), getD_at _ _ (by omega), List.getElem_append_right (by simp), List.getElem_dropLast]
  simp
theorem fence_is {g : Nat → Pt} (O : List Nat) (h2 : 2 ≤ O.length) (hl : O.Pairwise (fun a b => lx (g a) (g b))) : IsFence g O ((sideS g [] O).reverse.dropLast ++ (sideS g [] O.reverse).reverse.dropLast) := by
  have hne : O ≠ [] := fun e => by rw [e] at h2; simp at h2
  have hL := side_is O hne hl
  have hU := side_is_back O hne hl
  generalize (sideS g [] O).reverse = L at *
  generalize (sideS g [] O.reverse).reverse = U at *
  have hm : ∀ p, p ∈ O.reverse ↔ p ∈ O := fun p => List.mem_reverse
  have hLU : L.getD (L.length - 1) 0 = U.getD 0 0 := by
    rw [hL.last, hU.first, getD_rev _ _ (by omega), Nat.sub_zero]
  have hUL : U.getD (U.length - 1) 0 = L.getD 0 0 := by
    rw [hL.first, hU.last, List.length_reverse, getD_rev _ _ (by omega), show O.length - 1 - (O.length - 1) = 0 by omega]
  have hlx : ∀ i j, i < j → j < O.length → lx (g (O.getD i 0)) (g (O.getD j 0)) := fun i j hij hj => by
    rw [getD_at _ _ (by omega), getD_at _ _ hj]; exact List.pairwise_iff_getElem.1 hl i j (by omega) hj hij
  have hends := hlx 0 (O.length - 1) (by omega) (by omega)
  have l2 : 2 ≤ L.length := by
    have := hL.len
    by_cases h : L.length = 1
    · have e := hL.last
      rw [h, show 1 - 1 = 0 from rfl, hL.first] at e
      rw [← e] at hends; unfold lx at hends; omega
    · omega
  have u2 : 2 ≤ U.length := by
    have := hU.len
    by_cases h : U.length = 1
    · have e := hU.last
      rw [h, show 1 - 1 = 0 from rfl, hU.first, List.length_reverse, getD_rev _ _ (by omega), getD_rev _ _ (by omega), Nat.sub_zero, show O.length - 1 - (O.length - 1) = 0 by omega] at e
      rw [e] at hends; unfold lx at hends; omega
    · omega
  have hn : (L.dropLast ++ U.dropLast).length = (L.length - 1) + (U.length - 1) := by simp
  have c1 := fun i hi => fence_at L U (by omega) hLU i hi u2
  have c2 := fence_at2 L U
  generalize hC : L.dropLast ++ U.dropLast = C at *
  -- the place behind place i
  have nx1 : ∀ i, i + 1 < L.length → (i + 1) % C.length = i + 1 := fun i hi => Nat.mod_eq_of_lt (by omega)
  have cU : ∀ j, j < U.length → C.getD ((L.length - 1 + j) % C.length) 0 = U.getD j 0 := fun j hj => by
    by_cases h : j + 1 < U.length
    · rw [Nat.mod_eq_of_lt (by omega)]; exact c2 j h
    · obtain rfl : j = U.length - 1 := by omega
      rw [show L.length - 1 + (U.length - 1) = C.length by omega, Nat.mod_self, c1 0 (by omega), hUL]
  have cL : ∀ i, i < L.length → C.getD (i % C.length) 0 = L.getD i 0 := fun i hi => by
    rw [Nat.mod_eq_of_lt (by omega)]; exact c1 i (by omega)
  have cL2 : ∀ i, i < L.length → C.getD ((C.length + i) % C.length) 0 = L.getD i 0 := fun i hi => by
    rw [Nat.add_mod_left]; exact cL i hi
  have hlow : ∀ p ∈ O, lx0 (g (O.getD 0 0)) (g p) ∧ lx0 (g p) (g (O.getD (O.length - 1) 0)) := fun p hp => by
    obtain ⟨k, hk, rfl⟩ := List.getElem_of_mem hp
    rw [← getD_at O 0 hk]
    constructor
    · by_cases h : k = 0
      · rw [h]; exact lx0_refl _
      · exact lx_lx0 (hlx 0 k (by omega) hk)
    · by_cases h : k = O.length - 1
      · rw [← h]; exact lx0_refl _
      · exact lx_lx0 (hlx k (O.length - 1) (by omega) (by omega))
  refine ⟨by omega, fun i hi => ?_, fun i hi p hp => ?_, fun h3 i hi => ?_, fun a b p hp => ?_⟩
  · by_cases h : i < L.length
    · rw [c1 i (by omega)]; exact hL.sub i h
    · obtain ⟨j, rfl⟩ : ∃ j, i = L.length - 1 + j := ⟨i - (L.length - 1), by omega⟩
      rw [c2 j (by omega)]; exact (hm _).1 (hU.sub j (by omega))
  · by_cases h : i + 1 < L.length
    · rw [c1 i (by omega), cL (i + 1) h]
      exact hL.hold i h p hp
    · obtain ⟨j, rfl⟩ : ∃ j, i = L.length - 1 + j := ⟨i - (L.length - 1), by omega⟩
      have := hU.hold j (by omega) p ((hm p).2 hp)
      rw [turn_neg] at this
      rw [c2 j (by omega), show L.length - 1 + j + 1 = L.length - 1 + (j + 1) by omega, cU (j + 1) (by omega)]
      exact this
  · have h3' : 3 ≤ L.length ∨ 3 ≤ U.length := by omega
    by_cases h : i + 2 < L.length
    · rw [c1 i (by omega), cL (i + 1) (by omega), cL (i + 2) h]
      exact hL.left i h
    · by_cases h' : i + 2 = L.length
      · obtain rfl : i = L.length - 2 := by omega
        rw [c1 _ (by omega), show L.length - 2 + 1 = L.length - 1 + 0 by omega, cU 0 (by omega), show L.length - 2 + 2 = L.length - 1 + 1 by omega, cU 1 (by omega)]
        exact side_join hL hU l2 u2 h3' hLU
      · obtain ⟨j, rfl⟩ : ∃ j, i = L.length - 1 + j := ⟨i - (L.length - 1), by omega⟩
        by_cases h4 : j + 2 < U.length
        · rw [c2 j (by omega), show L.length - 1 + j + 1 = L.length - 1 + (j + 1) by omega, cU (j + 1) (by omega), show L.length - 1 + j + 2 = L.length - 1 + (j + 2) by omega, cU (j + 2) (by omega)]
          have := hU.left j h4
          rwa [turn_neg] at this
        · obtain rfl : j = U.length - 2 := by omega
          rw [c2 _ (by omega), show L.length - 1 + (U.length - 2) + 1 = C.length + 0 by omega, cL2 0 (by omega), show L.length - 1 + (U.length - 2) + 2 = C.length + 1 by omega, cL2 1 (by omega)]
          have := side_join (g := fun i => negP (g i)) hU (U := L) (by
            rw [List.reverse_reverse]
            have e : (fun i => negP (negP (g i))) = g := by funext i; unfold negP; cases g i; simp
            rw [e]; exact hL) u2 l2 (by omega) hUL
          rwa [turn_neg] at this
  · obtain ⟨hp0, hp1⟩ := hlow p hp
    by_cases hb : b ≤ 0
    · obtain ⟨i, hi, h⟩ := side_far hL a b hb p hp (by rw [hL.first]; exact hp0) (by rw [hL.last]; exact hp1)
      exact ⟨i, by omega, by rw [c1 i (by omega)]; exact h⟩
    · obtain ⟨j, hj, h⟩ := side_far hU (-a) (-b) (by omega) p ((hm p).2 hp) (by
        rw [hU.first, getD_rev _ _ (by omega), Nat.sub_zero]
        unfold lx0 negP at *; simp only; omega) (by
        rw [hU.last, List.length_reverse, getD_rev _ _ (by omega), show O.length - 1 - (O.length - 1) = 0 by omega]
        unfold lx0 negP at *; simp only; omega)
      refine ⟨(L.length - 1 + j) % C.length, Nat.mod_lt _ (by omega), ?_⟩
      rw [cU j hj]
      unfold negP at h
      simp only [Int.neg_mul_neg] at h
      exact h

end Go.Proofs.YtedchegejalolaaGreatDoor

/- The turn from a by b to c: the walks of the program's function and of the laws' own. -/
namespace Go.Proofs.YtedchegejalolaaGreatDoor
set_option linter.unusedVariables false
open Go.RowKit

theorem mul_in (a b : Int) (ha : -2097152 ≤ a ∧ a ≤ 2097152) (hb : -2097152 ≤ b ∧ b ≤ 2097152) : -4398046511104 ≤ a * b ∧ a * b ≤ 4398046511104 := by
  have h1 := Int.mul_nonneg (show 0 ≤ 2097152 - a by omega) (show 0 ≤ 2097152 - b by omega)
  have h2 := Int.mul_nonneg (show 0 ≤ 2097152 - a by omega) (show 0 ≤ 2097152 + b by omega)
  have h3 := Int.mul_nonneg (show 0 ≤ 2097152 + a by omega) (show 0 ≤ 2097152 - b by omega)
  have h4 := Int.mul_nonneg (show 0 ≤ 2097152 + a by omega) (show 0 ≤ 2097152 + b by omega)
  have e1 : (2097152 - a) * (2097152 - b) = 4398046511104 - 2097152 * a - 2097152 * b + a * b := by grind
  have e2 : (2097152 - a) * (2097152 + b) = 4398046511104 - 2097152 * a + 2097152 * b - a * b := by grind
  have e3 : (2097152 + a) * (2097152 - b) = 4398046511104 + 2097152 * a - 2097152 * b - a * b := by grind
  have e4 : (2097152 + a) * (2097152 + b) = 4398046511104 + 2097152 * a + 2097152 * b + a * b := by grind
  omega

set_option maxRecDepth 100000 in
set_option maxHeartbeats 2000000 in
theorem hturn_any (a b c : Pt) (w : World) (ha : a.Near) (hb : b.Near) (hc : c.Near) :
    Calls Tryz.prog 115 #[.agg #[.int .i64 a.x, .int .i64 a.y, .int .i64 a.w], .agg #[.int .i64 b.x, .int .i64 b.y, .int .i64 b.w], .agg #[.int .i64 c.x, .int .i64 c.y, .int .i64 c.w]] w fun e w' => e = .returned (.int .i64 (turnP a b c)) ∧ Below w.heap.size w w' := by
  have HT := Kp.mk (show turnP a b c = (b.x - a.x) * (c.y - a.y) - (b.y - a.y) * (c.x - a.x) from rfl)
  generalize turnP a b c = T at *
  obtain ⟨ax, ay, aw⟩ := a
  obtain ⟨bx, by', bw⟩ := b
  obtain ⟨cx, cy, cw⟩ := c
  unfold Pt.Near at ha hb hc
  dsimp only at *
  have w1 : wrap64 (bx - ax) = bx - ax := IntWalk.wrap64_in _ (by omega)
  have w2 : wrap64 (cy - ay) = cy - ay := IntWalk.wrap64_in _ (by omega)
  have w3 : wrap64 (by' - ay) = by' - ay := IntWalk.wrap64_in _ (by omega)
  have w4 : wrap64 (cx - ax) = cx - ax := IntWalk.wrap64_in _ (by omega)
  have m1 := mul_in (bx - ax) (cy - ay) (by omega) (by omega)
  have m2 := mul_in (by' - ay) (cx - ax) (by omega) (by omega)
  have w5 : wrap64 ((bx - ax) * (cy - ay)) = (bx - ax) * (cy - ay) := IntWalk.wrap64_in _ (by omega)
  have w6 : wrap64 ((by' - ay) * (cx - ax)) = (by' - ay) * (cx - ax) := IntWalk.wrap64_in _ (by omega)
  have w7 : wrap64 ((bx - ax) * (cy - ay) - (by' - ay) * (cx - ax)) = (bx - ax) * (cy - ay) - (by' - ay) * (cx - ax) := IntWalk.wrap64_in _ (by omega)
  have HV := Kp.mk (show wrap64 (wrap64 (wrap64 (bx - ax) * wrap64 (cy - ay)) - wrap64 (wrap64 (by' - ay) * wrap64 (cx - ax))) = T from by rw [w1, w2, w3, w4, w5, w6, w7]; exact HT.out.symm)
  clear w1 w2 w3 w4 w5 w6 w7
  have HD := Kp.mk (show Below w.heap.size w (((w.alloc (.cells #[.int .i64 ax, .int .i64 ay, .int .i64 aw] 78)).alloc (.cells #[.int .i64 bx, .int .i64 by', .int .i64 bw] 78)).alloc (.cells #[.int .i64 cx, .int .i64 cy, .int .i64 cw] 78)) from below_then_alloc (below_then_alloc (below_alloc (Nat.le_refl _) _) _) _)
  have b1 := Box.new w #[.int .i64 ax, .int .i64 ay, .int .i64 aw] 78
  have b2 := Box.new (w.alloc (.cells #[.int .i64 ax, .int .i64 ay, .int .i64 aw] 78)) #[.int .i64 bx, .int .i64 by', .int .i64 bw] 78
  have b3 := Box.new ((w.alloc (.cells #[.int .i64 ax, .int .i64 ay, .int .i64 aw] 78)).alloc (.cells #[.int .i64 bx, .int .i64 by', .int .i64 bw] 78)) #[.int .i64 cx, .int .i64 cy, .int .i64 cw] 78
  rw [alloc_size] at b2
  rw [alloc_size, alloc_size] at b3
  have b4 := (b1.alloc (.cells #[.int .i64 bx, .int .i64 by', .int .i64 bw] 78)).alloc (.cells #[.int .i64 cx, .int .i64 cy, .int .i64 cw] 78)
  have b5 := b2.alloc (.cells #[.int .i64 cx, .int .i64 cy, .int .i64 cw] 78)
  have c0 := b4.cell 0 rfl
  have c1 := b4.cell 1 rfl
  have c2 := b5.cell 0 rfl
  have c3 := b5.cell 1 rfl
  have c4 := b3.cell 0 rfl
  have c5 := b3.cell 1 rfl
  clear b1 b2 b3 b4 b5 ha hb hc HT m1 m2
  go_enter Tryz.func115, Tryz.ntmps115
  go_wp2
  go_ret
  exact ⟨by rw [← HV.out]; rfl, HD.out⟩

end Go.Proofs.YtedchegejalolaaGreatDoor

/- Rows of places of the call's own. -/
namespace Go.Proofs.YtedchegejalolaaGreatDoor
set_option linter.unusedVariables false
open Go.RowKit

theorem nat_at {w : World} {g c n : Nat} {X : List Nat} {B : Nat} (h : w.ownsRow B 3 1 (.slice (some ⟨g, 0, none⟩) n c) n (ints (X.map Int.ofNat))) (hl : X.length = n) (i : Nat) (hi : i < n) : w.cell? ⟨g, i, none⟩ = some (.int .i64 ((X.getD i 0 : Nat) : Int)) := by
  rw [h.cellAt i (by omega)]
  simp only [ints, List.getElem?_map, List.map_map]
  rw [List.getElem?_eq_getElem (by omega), getD_at _ _ (by omega)]
  rfl
theorem natrow_set (X : List Nat) (i x : Nat) : (ints (X.map Int.ofNat)).set i (.int .i64 (x : Int)) = ints ((X.set i x).map Int.ofNat) := by
  simp [ints, List.map_set]

end Go.Proofs.YtedchegejalolaaGreatDoor


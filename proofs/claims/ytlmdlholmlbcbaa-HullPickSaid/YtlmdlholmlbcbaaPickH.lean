/- Hulls: their areas, what they have; by Pick's law, in plain Lean. -/
import Derived.Test.YtlmdlholmlbcbaaPickP
import Derived.Test.YtlmdlholmlbcbaaHulL
namespace Go.Proofs.Ytlmdlholmlbcbaa.Pick
set_option linter.unusedVariables false

theorem turn_tz (a b c : Pt) : turnP a b c = tz a b c.x c.y := rfl
theorem par_same (dx dy ex ey ax ay : Int) (hd : 0 < dx ∨ (dx = 0 ∧ 0 < dy)) (he : 0 < ex ∨ (ex = 0 ∧ 0 < ey)) (hp : dx * ey = dy * ex) (h : 0 < ax * dy - ay * dx) : 0 < ax * ey - ay * ex := by
  rcases hd with hd | ⟨hd, hdy⟩
  · have hex : 0 < ex := by
      rcases he with h1 | ⟨h1, h2⟩
      · exact h1
      · exfalso; rw [h1, Int.mul_zero] at hp
        have := Int.mul_pos hd h2; omega
    have e : dx * (ax * ey - ay * ex) = ex * (ax * dy - ay * dx) := by
      rw [Int.mul_sub, Int.mul_sub]
      have : dx * (ax * ey) = ax * (dx * ey) := by grind
      rw [this, hp]; grind
    have h3 := Int.mul_pos hex h
    by_cases hc : 0 < ax * ey - ay * ex
    · exact hc
    · have := Int.mul_nonpos_of_nonneg_of_nonpos (Int.le_of_lt hd) (show ax * ey - ay * ex ≤ 0 by omega)
      omega
  · subst hd
    have hex : ex = 0 := by
      rw [Int.zero_mul] at hp
      rcases Int.mul_eq_zero.1 hp.symm with h1 | h1 <;> omega
    subst hex
    have hey : 0 < ey := by omega
    rw [Int.mul_zero, Int.sub_zero] at h ⊢
    have hax : 0 < ax := by
      by_cases hc : 0 < ax
      · exact hc
      · have := Int.mul_nonpos_of_nonpos_of_nonneg (show ax ≤ 0 by omega) (Int.le_of_lt hdy)
        omega
    exact Int.mul_pos hax hey
/-- Corners that are a hull whose first one stands ahead of all. -/
structure HullL (L D : List Pt) : Prop where
  hull : IsHull L D
  low : ∀ i, 0 < i → i < D.length → lx (D.getD 0 pt0) (D.getD i pt0)
def crn (D : List Pt) (i : Nat) : Pt := D.getD i pt0
theorem conv_of_hull {L D : List Pt} (h : HullL L D) (h3 : 3 ≤ D.length) : Conv (crn D) D.length := by
  have hold : ∀ i, i + 1 < D.length → ∀ j, j < D.length → 0 ≤ tz (crn D i) (crn D (i + 1)) (crn D j).x (crn D j).y := fun i hi j hj => by
    have := h.hull.hold h3 i (by omega) _ (h.hull.sub j hj)
    rw [Nat.mod_eq_of_lt hi] at this
    exact this
  have fan : ∀ k, 1 ≤ k → k + 1 < D.length → 0 < tz (crn D 0) (crn D k) (crn D (k + 1)).x (crn D (k + 1)).y := by
    intro k h1 h2
    have e0 := hold k h2 0 (by omega)
    rw [← tz_cyc] at e0
    by_cases hz : tz (crn D 0) (crn D k) (crn D (k + 1)).x (crn D (k + 1)).y = 0
    · exfalso
      have o1 : lx (crn D 0) (crn D k) := h.low k (by omega) (by omega)
      have o2 : lx (crn D 0) (crn D (k + 1)) := h.low (k + 1) (by omega) (by omega)
      have hl := h.hull.left h3 k (by omega)
      rw [Nat.mod_eq_of_lt h2] at hl
      by_cases h4 : k + 2 = D.length
      · rw [h4, Nat.mod_self] at hl
        have : 0 < tz (crn D k) (crn D (k + 1)) (crn D 0).x (crn D 0).y := hl
        rw [← tz_cyc] at this
        omega
      · rw [Nat.mod_eq_of_lt (by omega)] at hl
        have hl : 0 < tz (crn D k) (crn D (k + 1)) (crn D (k + 2)).x (crn D (k + 2)).y := hl
        have hk2 := hold (k + 1) (by omega) 0 (by omega)
        have hl1 := h.hull.left h3 (k - 1) (by omega)
        rw [show k - 1 + 1 = k by omega, show k - 1 + 2 = k + 1 by omega, Nat.mod_eq_of_lt (by omega : k < D.length), Nat.mod_eq_of_lt h2] at hl1
        have hl1 : 0 < tz (crn D (k - 1)) (crn D k) (crn D (k + 1)).x (crn D (k + 1)).y := hl1
        have hk1 := hold (k - 1) (by omega) 0 (by omega)
        rw [show k - 1 + 1 = k by omega] at hk1
        rw [show k + 1 + 1 = k + 2 by omega] at hk2
        generalize crn D 0 = O at *
        generalize crn D k = P at *
        generalize crn D (k + 1) = Q at *
        generalize crn D (k + 2) = C at *
        generalize crn D (k - 1) = A at *
        unfold tz at *
        unfold lx at *
        by_cases hpq : P.x < Q.x ∨ (P.x = Q.x ∧ P.y < Q.y)
        · have := par_same (Q.x - P.x) (Q.y - P.y) (P.x - O.x) (P.y - O.y) (P.x - A.x) (P.y - A.y) (by omega) (by omega) (by grind) (by grind)
          grind
        · by_cases hqp : Q.x < P.x ∨ (Q.x = P.x ∧ Q.y < P.y)
          · have := par_same (P.x - Q.x) (P.y - Q.y) (Q.x - O.x) (Q.y - O.y) (C.x - Q.x) (C.y - Q.y) (by omega) (by omega) (by grind) (by grind)
            grind
          · have ex : Q.x = P.x := by omega
            have ey : Q.y = P.y := by omega
            rw [ex, ey] at hl
            simp at hl
    · omega
  refine ⟨hold, fan, ?_, fun k h1 h2 => h.low k (by omega) h2⟩
  intro m k h1 h2 hk
  induction k with
  | zero => omega
  | succ k ih =>
    by_cases e : m = k + 1
    · subst e; rw [tz_second]; exact Int.le_refl _
    · have a1 := ih (by omega) (by omega)
      have a2 := fan k (by omega) hk
      have o1 : lx (crn D 0) (crn D m) := h.low m (by omega) (by omega)
      have o2 : lx (crn D 0) (crn D k) := h.low k (by omega) (by omega)
      have o3 : lx (crn D 0) (crn D (k + 1)) := h.low (k + 1) (by omega) hk
      generalize crn D 0 = O at *
      generalize crn D k = P at *
      generalize crn D (k + 1) = Q at *
      generalize crn D m = A at *
      unfold tz at *
      unfold lx at *
      exact cross_tr (A.x - O.x) (A.y - O.y) (P.x - O.x) (P.y - O.y) (Q.x - O.x) (Q.y - O.y) (by omega) (by omega) (by omega) a1 (by omega)
/-- The sum over the edges. -/
def nxt (D : List Pt) (i : Nat) : Pt := D.getD ((i + 1) % D.length) pt0
def areaS (D : List Pt) : Nat → Int
  | 0 => 0
  | k + 1 => areaS D k + crossP (crn D k) (nxt D k)
def bordS (D : List Pt) : Nat → Int
  | 0 => 0
  | k + 1 => bordS D k + gcdP (crn D k) (nxt D k)
theorem nxt_in (D : List Pt) (i : Nat) (h : i + 1 < D.length) : nxt D i = crn D (i + 1) := by unfold nxt crn; rw [Nat.mod_eq_of_lt h]
theorem nxt_end (D : List Pt) (i : Nat) (h : i + 1 = D.length) : nxt D i = crn D 0 := by unfold nxt crn; rw [h, Nat.mod_self]
theorem areaS_in (D : List Pt) : ∀ k, k < D.length → areaS D k = crossK (crn D) k
  | 0, _ => rfl
  | k + 1, h => by
    show areaS D k + _ = crossK (crn D) k + _
    rw [areaS_in D k (by omega), nxt_in D k h]
theorem bordS_in (D : List Pt) : ∀ k, k < D.length → bordS D k = bordK (crn D) k
  | 0, _ => rfl
  | k + 1, h => by
    show bordS D k + _ = bordK (crn D) k + _
    rw [bordS_in D k (by omega), nxt_in D k h]
theorem areaS_all (D : List Pt) (h : 0 < D.length) : areaS D D.length = areaAll (crn D) D.length := by
  obtain ⟨n, hn⟩ : ∃ n, D.length = n + 1 := ⟨D.length - 1, by omega⟩
  rw [hn]
  show areaS D n + crossP (crn D n) (nxt D n) = _
  rw [areaS_in D n (by omega), nxt_end D n (by omega)]
  unfold areaAll
  cases n with
  | zero => show 0 + crossP (crn D 0) (crn D 0) = 0; unfold crossP; grind
  | succ n => rw [cross_area]; rfl
theorem bordS_all (D : List Pt) (h : 3 ≤ D.length) : bordS D D.length = bordAll (crn D) D.length := by
  obtain ⟨n, hn⟩ : ∃ n, D.length = n + 1 := ⟨D.length - 1, by omega⟩
  rw [hn]
  show bordS D n + (gcdP (crn D n) (nxt D n) : Int) = _
  rw [bordS_in D n (by omega), nxt_end D n (by omega)]
  rfl
theorem areaS_nonneg {L D : List Pt} (h : HullL L D) : 0 ≤ areaS D D.length ∧ (3 ≤ D.length → 0 < areaS D D.length) ∧ (D.length < 3 → areaS D D.length = 0) := by
  rw [areaS_all D h.hull.len]
  have hl := h.hull.len
  by_cases h3 : 3 ≤ D.length
  · have hC := conv_of_hull h h3
    have := area_pos hC (D.length - 2) (by omega)
    unfold areaAll
    exact ⟨this.1, fun _ => this.2 (by omega), fun h => by omega⟩
  · have e : areaAll (crn D) D.length = 0 := by
      unfold areaAll
      rw [show D.length - 2 = 0 by omega]; rfl
    rw [e]
    exact ⟨Int.le_refl _, fun h => absurd h h3, fun _ => rfl⟩
/-- What Has tells. -/
def betw (a b p : Pt) : Prop := turnP a b p = 0 ∧ min a.x b.x ≤ p.x ∧ p.x ≤ max a.x b.x ∧ min a.y b.y ≤ p.y ∧ p.y ≤ max a.y b.y
def InHull (D : List Pt) (z : Pt) : Prop := if D.length < 3 then betw (crn D 0) (crn D (D.length - 1)) z else ∀ i, i < D.length → 0 ≤ turnP (crn D i) (nxt D i) z
theorem hull_hold {L D : List Pt} (h : HullL L D) (h3 : 3 ≤ D.length) (i : Nat) (hi : i < D.length) (p : Pt) (hp : p ∈ L) : 0 ≤ turnP (crn D i) (nxt D i) p := h.hull.hold h3 i hi p hp
theorem inHull_poly {D : List Pt} (h3 : 3 ≤ D.length) (z : Pt) : InHull D z ↔ inPoly (crn D) (D.length - 1) z.x z.y = true := by
  unfold InHull
  rw [if_neg (by omega), inPoly_iff]
  constructor
  · intro h
    refine ⟨fun i hi => ?_, ?_⟩
    · have := h i (by omega); rw [nxt_in D i (by omega)] at this; exact this
    · have := h (D.length - 1) (by omega); rw [nxt_end D _ (by omega)] at this; exact this
  · rintro ⟨h1, h2⟩ i hi
    by_cases e : i + 1 < D.length
    · rw [nxt_in D i e]; exact h1 i (by omega)
    · rw [nxt_end D i (by omega), show i = D.length - 1 by omega]; exact h2
/-- Three places on a line. -/
theorem on_line {A B u v w : Pt} (hAB : lx A B) (h1 : turnP A B u = 0) (h2 : turnP A B v = 0) (h3 : turnP A B w = 0) : turnP u v w = 0 := by
  unfold turnP lx at *
  have ex : (B.x - A.x) * ((v.x - u.x) * (w.y - u.y) - (v.y - u.y) * (w.x - u.x)) = 0 := by grind
  have ey : (B.y - A.y) * ((v.x - u.x) * (w.y - u.y) - (v.y - u.y) * (w.x - u.x)) = 0 := by grind
  rcases hAB with h | ⟨h, h'⟩
  · rcases Int.mul_eq_zero.1 ex with e | e
    · omega
    · exact e
  · rcases Int.mul_eq_zero.1 ey with e | e
    · omega
    · exact e
/-- Of a thin hull: all are on one line, or at one place. -/
theorem thin_line {L D : List Pt} (h : HullL L D) (h3 : D.length < 3) {u v w : Pt} (hu : u ∈ L) (hv : v ∈ L) (hw : w ∈ L) : turnP u v w = 0 := by
  have hl := h.hull.len
  by_cases h2 : D.length = 2
  · have ht := h.hull.thin h3
    rw [h2] at ht
    exact on_line (h.low 1 (by omega) (by omega)) (ht u hu) (ht v hv) (ht w hw)
  · have h1 : D.length = 1 := by omega
    have same : ∀ p ∈ L, p.x = (crn D 0).x ∧ p.y = (crn D 0).y := fun p hp => by
      have f : ∀ a b : Int, a * p.x + b * p.y ≤ a * (crn D 0).x + b * (crn D 0).y := fun a b => by
        obtain ⟨i, hi, hle⟩ := h.hull.far a b p hp
        obtain rfl : i = 0 := by omega
        exact hle
      have f1 := f 1 0
      have f2 := f (-1) 0
      have f3 := f 0 1
      have f4 := f 0 (-1)
      omega
    obtain ⟨a1, a2⟩ := same u hu
    obtain ⟨b1, b2⟩ := same v hv
    unfold turnP
    rw [a1, a2, b1, b2]; simp
/-- As few corners as the points of a hull. -/
theorem thick_of {L D E : List Pt} {L' : List Pt} (hD : HullL L D) (hE : HullL L' E) (hs : ∀ p ∈ L, ∃ q ∈ L', q.x = p.x ∧ q.y = p.y) (h3 : 3 ≤ D.length) : 3 ≤ E.length := by
  by_cases h : 3 ≤ E.length
  · exact h
  · exfalso
    obtain ⟨u, hu, u1, u2⟩ := hs _ (hD.hull.sub 0 (by omega))
    obtain ⟨v, hv, v1, v2⟩ := hs _ (hD.hull.sub 1 (by omega))
    obtain ⟨w, hw, w1, w2⟩ := hs _ (hD.hull.sub 2 (by omega))
    have h1 := thin_line hE (by omega) hu hv hw
    have h2 := hD.hull.left h3 0 (by omega)
    rw [Nat.mod_eq_of_lt (by omega : 0 + 1 < D.length), Nat.mod_eq_of_lt (by omega : 0 + 2 < D.length)] at h2
    have h2 : 0 < turnP (D.getD 0 pt0) (D.getD 1 pt0) (D.getD 2 pt0) := h2
    unfold turnP at h1 h2
    rw [u1, u2, v1, v2, w1, w2] at h1
    omega
theorem turn_pos (a b : Pt) {p q : Pt} (hx : q.x = p.x) (hy : q.y = p.y) : turnP a b q = turnP a b p := by unfold turnP; rw [hx, hy]
/-- What holds at all edges. -/
theorem within_of {D E : List Pt} (h3 : 3 ≤ E.length) (h : ∀ j, j < D.length → ∀ i, i < E.length → 0 ≤ turnP (crn E i) (nxt E i) (crn D j)) : Within (crn D) D.length (crn E) E.length := by
  refine ⟨fun i hi j hj => ?_, fun j hj => ?_⟩
  · have := h j hj i (by omega); rw [nxt_in E i hi] at this; exact this
  · have := h j hj (E.length - 1) (by omega); rw [nxt_end E _ (by omega)] at this; exact this
theorem bd_crn {L D : List Pt} {B : Nat} (h : HullL L D) (hB : ∀ p ∈ L, BdP B p) : ∀ i, i < D.length → BdP B (crn D i) := fun i hi => hB _ (h.hull.sub i hi)
theorem area_sub {L L' D E : List Pt} {B : Nat} (hD : HullL L D) (hE : HullL L' E) (hs : ∀ p ∈ L, ∃ q ∈ L', q.x = p.x ∧ q.y = p.y) (bL : ∀ p ∈ L, BdP B p) (bL' : ∀ p ∈ L', BdP B p) : areaS D D.length ≤ areaS E E.length := by
  by_cases h3 : 3 ≤ D.length
  · have h3' := thick_of hD hE hs h3
    rw [areaS_all D (by omega), areaS_all E (by omega)]
    refine area_le h3 h3' (conv_of_hull hD h3) (conv_of_hull hE h3') (within_of h3' (fun j hj i hi => ?_)) (bd_crn hD bL) (bd_crn hE bL')
    obtain ⟨q, hq, q1, q2⟩ := hs _ (hD.hull.sub j hj)
    have := hull_hold hE h3' i hi q hq
    rw [turn_pos _ _ q1 q2] at this
    exact this
  · rw [(areaS_nonneg hD).2.2 (by omega)]
    exact (areaS_nonneg hE).1
theorem area_same {L D E : List Pt} {B : Nat} (hD : HullL L D) (hE : HullL L E) (bL : ∀ p ∈ L, BdP B p) : areaS D D.length = areaS E E.length :=
  Int.le_antisymm (area_sub hD hE (fun p hp => ⟨p, hp, rfl, rfl⟩) bL bL) (area_sub hE hD (fun p hp => ⟨p, hp, rfl, rfl⟩) bL bL)
theorem more_has {L D E : List Pt} {B : Nat} {z : Pt} (hD : HullL L D) (hE : HullL (L ++ [z]) E) (bL : ∀ p ∈ L, BdP B p) (bz : BdP B z) (hz : InHull D z) : areaS D D.length = areaS E E.length := by
  have bL' : ∀ p ∈ L ++ [z], BdP B p := fun p hp => by
    rcases List.mem_append.1 hp with hp | hp
    · exact bL p hp
    · rw [List.mem_singleton.1 hp]; exact bz
  refine Int.le_antisymm (area_sub hD hE (fun p hp => ⟨p, List.mem_append_left _ hp, rfl, rfl⟩) bL bL') ?_
  by_cases h3 : 3 ≤ D.length
  · have h3' := thick_of hD hE (fun p hp => ⟨p, List.mem_append_left _ hp, rfl, rfl⟩) h3
    rw [areaS_all D (by omega), areaS_all E (by omega)]
    refine area_le h3' h3 (conv_of_hull hE h3') (conv_of_hull hD h3) (within_of h3 (fun j hj i hi => ?_)) (bd_crn hE bL') (bd_crn hD bL)
    rcases List.mem_append.1 (hE.hull.sub j hj) with hp | hp
    · exact hull_hold hD h3 i hi _ hp
    · have hp : crn E j = z := List.mem_singleton.1 hp
      rw [hp]
      unfold InHull at hz
      rw [if_neg (by omega)] at hz
      exact hz i hi
  · rw [(areaS_nonneg hD).2.2 (by omega)]
    by_cases h3' : 3 ≤ E.length
    · exfalso
      unfold InHull betw at hz
      rw [if_pos (by omega)] at hz
      obtain ⟨z0, z1, z2, z3, z4⟩ := hz
      have hl := hD.hull.len
      have key : ∀ u ∈ L ++ [z], ∀ v ∈ L ++ [z], ∀ w ∈ L ++ [z], turnP u v w = 0 := by
        by_cases h2 : D.length = 2
        · have ht := hD.hull.thin (by omega)
          rw [h2] at ht z0
          have on : ∀ p ∈ L ++ [z], turnP (D.getD 0 pt0) (D.getD (2 - 1) pt0) p = 0 := fun p hp => by
            rcases List.mem_append.1 hp with hp | hp
            · exact ht p hp
            · rw [List.mem_singleton.1 hp]; exact z0
          exact fun u hu v hv w hw => on_line (hD.low 1 (by omega) (by omega)) (on u hu) (on v hv) (on w hw)
        · have h1 : D.length = 1 := by omega
          rw [h1] at z1 z2 z3 z4
          have same : ∀ p ∈ L ++ [z], p.x = (crn D 0).x ∧ p.y = (crn D 0).y := fun p hp => by
            rcases List.mem_append.1 hp with hp | hp
            · have f : ∀ a b : Int, a * p.x + b * p.y ≤ a * (crn D 0).x + b * (crn D 0).y := fun a b => by
                obtain ⟨i, hi, hle⟩ := hD.hull.far a b p hp
                obtain rfl : i = 0 := by omega
                exact hle
              have f1 := f 1 0
              have f2 := f (-1) 0
              have f3 := f 0 1
              have f4 := f 0 (-1)
              omega
            · rw [List.mem_singleton.1 hp]
              simp only [Nat.sub_self, Int.min_self, Int.max_self] at z1 z2 z3 z4
              omega
          intro u hu v hv w hw
          obtain ⟨a1, a2⟩ := same u hu
          obtain ⟨b1, b2⟩ := same v hv
          unfold turnP
          rw [a1, a2, b1, b2]; simp
      have h2 := hE.hull.left h3' 0 (by omega)
      have := key _ (hE.hull.sub 0 (by omega)) _ (hE.hull.sub ((0 + 1) % E.length) (Nat.mod_lt _ (by omega))) _ (hE.hull.sub ((0 + 2) % E.length) (Nat.mod_lt _ (by omega)))
      omega
    · rw [(areaS_nonneg hE).2.2 (by omega)]; exact Int.le_refl _
theorem more_not {L D E : List Pt} {B : Nat} {z : Pt} (hD : HullL L D) (hE : HullL (L ++ [z]) E) (bL : ∀ p ∈ L, BdP B p) (bz : BdP B z) (hz : ¬ InHull D z) : areaS D D.length < areaS E E.length ∨ areaS E E.length = 0 := by
  have bL' : ∀ p ∈ L ++ [z], BdP B p := fun p hp => by
    rcases List.mem_append.1 hp with hp | hp
    · exact bL p hp
    · rw [List.mem_singleton.1 hp]; exact bz
  by_cases h3 : 3 ≤ D.length
  · left
    have h3' := thick_of hD hE (fun p hp => ⟨p, List.mem_append_left _ hp, rfl, rfl⟩) h3
    unfold InHull at hz
    rw [if_neg (by omega)] at hz
    obtain ⟨i, hi, hneg⟩ : ∃ i, i < D.length ∧ turnP (crn D i) (nxt D i) z < 0 := by
      refine Classical.byContradiction fun hc => hz (fun i hi => ?_)
      by_cases e : 0 ≤ turnP (crn D i) (nxt D i) z
      · exact e
      · exact absurd ⟨i, hi, by omega⟩ hc
    have hm1 : crn D i ∈ L ++ [z] := List.mem_append_left _ (hD.hull.sub i hi)
    have hm2 : nxt D i ∈ L ++ [z] := List.mem_append_left _ (hD.hull.sub _ (Nat.mod_lt _ (by omega)))
    have hm3 : z ∈ L ++ [z] := List.mem_append_right _ (List.mem_singleton.2 rfl)
    rw [areaS_all D (by omega), areaS_all E (by omega)]
    refine area_lt h3 h3' (conv_of_hull hD h3) (conv_of_hull hE h3') (within_of h3' (fun j hj q hq => hull_hold hE h3' q hq _ (List.mem_append_left _ (hD.hull.sub j hj)))) (bd_crn hD bL) (bd_crn hE bL')
      z (crn D i) (nxt D i) bz (bL' _ hm1) (bL' _ hm2) (fun N hN x y hp => ?_) hneg (fun q hq => ?_) ?_
    · obtain ⟨p1, p2⟩ := (inPoly_iff _ _ _ _).1 hp
      by_cases e : i + 1 < D.length
      · rw [nxt_in D i e]; exact p1 i (by omega)
      · rw [nxt_end D i (by omega), show i = D.length - 1 by omega]; exact p2
    · rw [← nxt_in E q hq]
      exact ⟨hull_hold hE h3' q (by omega) _ hm3, hull_hold hE h3' q (by omega) _ hm1, hull_hold hE h3' q (by omega) _ hm2⟩
    · rw [← nxt_end E (E.length - 1) (by omega)]
      exact ⟨hull_hold hE h3' _ (by omega) _ hm3, hull_hold hE h3' _ (by omega) _ hm1, hull_hold hE h3' _ (by omega) _ hm2⟩
  · rw [(areaS_nonneg hD).2.2 (by omega)]
    have := (areaS_nonneg hE).1
    omega
/-- A place half way. -/
theorem mid_in {L D : List Pt} {p q z : Pt} (hD : HullL L D) (hp : p ∈ L) (hq : q ∈ L) (hx : 2 * z.x = p.x + q.x) (hy : 2 * z.y = p.y + q.y) : InHull D z := by
  have aff : ∀ a b : Pt, 2 * turnP a b z = turnP a b p + turnP a b q := fun a b => by
    have e : 2 * turnP a b z = (b.x - a.x) * (2 * z.y - 2 * a.y) - (b.y - a.y) * (2 * z.x - 2 * a.x) := by unfold turnP; grind
    rw [e, hx, hy]; unfold turnP; grind
  unfold InHull
  by_cases h3 : D.length < 3
  · rw [if_pos h3]
    have ht := hD.hull.thin h3
    have hl := hD.hull.len
    have box : ∀ u ∈ L, min (crn D 0).x (crn D (D.length - 1)).x ≤ u.x ∧ u.x ≤ max (crn D 0).x (crn D (D.length - 1)).x ∧ min (crn D 0).y (crn D (D.length - 1)).y ≤ u.y ∧ u.y ≤ max (crn D 0).y (crn D (D.length - 1)).y := fun u hu => by
      have f : ∀ a b : Int, a * u.x + b * u.y ≤ a * (crn D 0).x + b * (crn D 0).y ∨ a * u.x + b * u.y ≤ a * (crn D (D.length - 1)).x + b * (crn D (D.length - 1)).y := fun a b => by
        obtain ⟨i, hi, hle⟩ := hD.hull.far a b u hu
        rcases (show i = 0 ∨ i = D.length - 1 by omega) with e | e
        · subst e; exact .inl hle
        · subst e; exact .inr hle
      have f1 := f 1 0
      have f2 := f (-1) 0
      have f3 := f 0 1
      have f4 := f 0 (-1)
      omega
    have b1 := box p hp
    have b2 := box q hq
    have t1 := ht p hp
    have t2 := ht q hq
    have t3 := aff (crn D 0) (crn D (D.length - 1))
    unfold betw
    refine ⟨?_, by omega, by omega, by omega, by omega⟩
    have t1' : turnP (crn D 0) (crn D (D.length - 1)) p = 0 := t1
    have t2' : turnP (crn D 0) (crn D (D.length - 1)) q = 0 := t2
    omega
  · rw [if_neg h3]
    intro i hi
    have := hull_hold hD (by omega) i hi p hp
    have := hull_hold hD (by omega) i hi q hq
    have := aff (crn D i) (nxt D i)
    omega
/-- Two hulls of the same points hold the same. -/
theorem inHull_same {L D E : List Pt} {z : Pt} (hD : HullL L D) (hE : HullL L E) (h3 : 3 ≤ D.length) (h : InHull D z) : InHull E z := by
  have h3' := thick_of hD hE (fun p hp => ⟨p, hp, rfl, rfl⟩) h3
  rw [inHull_poly h3] at h
  unfold InHull
  rw [if_neg (by omega)]
  intro i hi
  exact poly_in (conv_of_hull hD h3) (D.length - 1) (by omega) (by omega) h (fun j hj => hull_hold hE h3' i hi _ (hD.hull.sub j (by omega)))
theorem pick_hull {L D : List Pt} (hD : HullL L D) (h3 : 3 ≤ D.length) (N : Nat) (hB : ∀ p ∈ L, InB 0 N p) : 2 * cnt (inPoly (crn D) (D.length - 1)) 0 N = areaS D D.length + bordS D D.length + 2 := by
  rw [areaS_all D (by omega), bordS_all D h3]
  exact pick_all h3 (conv_of_hull hD h3) 0 N (fun i hi => hB _ (hD.hull.sub i hi))

end Go.Proofs.Ytlmdlholmlbcbaa.Pick

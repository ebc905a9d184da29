/- Plain facts on the tree of a list: parents, and those who stand above. -/
import Derived.Test.YtnieacfleabikaaTixP
namespace Go.Proofs.Ytnieacfleabikaa
set_option linter.unusedVariables false

/-- The last one ahead that is as great. -/
def IsQ (l : List Int) (x q : Nat) : Prop := q < x ∧ at0 l x ≤ at0 l q ∧ ∀ z, q < z → z < x → at0 l z < at0 l x
/-- The first one behind, of the first i, that is greater. -/
def IsR (l : List Int) (i x r : Nat) : Prop := x < r ∧ r < i ∧ at0 l x < at0 l r ∧ ∀ z, x < z → z < r → at0 l z ≤ at0 l x
theorem IsQ.uniq {l : List Int} {x p q : Nat} (h : IsQ l x p) (k : IsQ l x q) : p = q := by
  rcases Nat.lt_trichotomy p q with e | e | e
  · have := h.2.2 q e k.1; have := k.2.1; omega
  · exact e
  · have := k.2.2 p e h.1; have := h.2.1; omega
theorem IsR.uniq {l : List Int} {i x p q : Nat} (h : IsR l i x p) (k : IsR l i x q) : p = q := by
  rcases Nat.lt_trichotomy p q with e | e | e
  · have := k.2.2.2 p h.1 e; have := h.2.2.1; omega
  · exact e
  · have := h.2.2.2 q k.1 e; have := k.2.2.1; omega
theorem IsR.more {l : List Int} {i x r : Nat} (h : IsR l i x r) : IsR l (i + 1) x r := ⟨h.1, by have := h.2.1; omega, h.2.2⟩
theorem noR {l : List Int} {i x : Nat} (h : ∀ r, ¬ IsR l i x r) : ∀ z, x < z → z < i → at0 l z ≤ at0 l x := by
  intro z
  induction z using Nat.strongRecOn with
  | ind z ih =>
    intro h1 h2
    apply Classical.byContradiction
    intro hc
    exact h z ⟨h1, h2, by omega, fun y hy1 hy2 => ih y hy2 hy1 (by omega)⟩
theorem noQ {l : List Int} {x : Nat} (h : ∀ q, ¬ IsQ l x q) : ∀ z, z < x → at0 l z < at0 l x := by
  intro z hz
  apply Classical.byContradiction
  intro hc
  have key : ∀ d z, x - z = d → z < x → ¬ at0 l z < at0 l x → False := by
    intro d
    induction d using Nat.strongRecOn with
    | ind d ih =>
      intro z hd hz hc
      refine h z ⟨hz, by omega, fun y hy1 hy2 => ?_⟩
      apply Classical.byContradiction
      intro hy
      exact ih (x - y) (by omega) y rfl hy2 hy
  exact key _ z rfl hz hc
/-- The parent of a place, of the first i alone. -/
def Par (l : List Int) (i x : Nat) (o : Int) : Prop :=
  (∃ r : Nat, IsR l i x r ∧ o = r ∧ ∀ q, IsQ l x q → at0 l r ≤ at0 l q) ∨
  (∃ q : Nat, IsQ l x q ∧ o = q ∧ ∀ r, IsR l i x r → at0 l q < at0 l r) ∨
  ((∀ q, ¬ IsQ l x q) ∧ (∀ r, ¬ IsR l i x r) ∧ o = -1)
theorem Par.same {l : List Int} {i x : Nat} {o : Int} (h : Par l i x o) (he : ∀ r, IsR l (i + 1) x r → IsR l i x r) : Par l (i + 1) x o := by
  rcases h with ⟨r, h1, h2, h3⟩ | ⟨q, h1, h2, h3⟩ | ⟨h1, h2, h3⟩
  · exact .inl ⟨r, h1.more, h2, h3⟩
  · exact .inr (.inl ⟨q, h1, h2, fun r hr => h3 r (he r hr)⟩)
  · exact .inr (.inr ⟨h1, fun r hr => h2 r (he r hr), h3⟩)
theorem Par.ofQ {l : List Int} {i x q : Nat} {o : Int} (h : Par l i x o) (hn : ∀ r, ¬ IsR l i x r) (hq : IsQ l x q) : o = q := by
  rcases h with ⟨r, h1, _⟩ | ⟨p, h1, h2, h3⟩ | ⟨h1, _, _⟩
  · exact absurd h1 (hn r)
  · rw [h2, h1.uniq hq]
  · exact absurd hq (h1 q)
/-- A stack, its top first: each one's Q stands below it. -/
def StkQ (l : List Int) : List Nat → Prop
  | [] => True
  | [x] => ∀ q, ¬ IsQ l x q
  | x :: q :: r => IsQ l x q ∧ StkQ l (q :: r)
theorem StkQ.tail {l : List Int} {x : Nat} {t : List Nat} (h : StkQ l (x :: t)) : StkQ l t := by
  cases t with
  | nil => trivial
  | cons q r => exact h.2
theorem StkQ.drop {l : List Int} {P t : List Nat} (h : StkQ l (P ++ t)) : StkQ l t := by
  induction P with
  | nil => exact h
  | cons x P ih => exact ih h.tail
theorem StkQ.ge {l : List Int} {x : Nat} {t : List Nat} (h : StkQ l (x :: t)) : ∀ y ∈ t, at0 l x ≤ at0 l y ∧ y < x := by
  induction t generalizing x with
  | nil => intro y hy; cases hy
  | cons q r ih =>
    intro y hy
    have h1 := h.1
    rcases List.mem_cons.1 hy with rfl | hy
    · exact ⟨h1.2.1, h1.1⟩
    · have := ih h.2 y hy
      have := h1.2.1
      have := h1.1
      omega
/-- The tree of the first i; the stack, its top first. -/
structure Tre (l : List Int) (n i : Nat) (o : List Int) (ts : List Nat) : Prop where
  len : o.length = n
  par : ∀ x, x < i → Par l i x (o.getD x 0)
  stq : StkQ l ts
  lt : ∀ x ∈ ts, x < i
  nor : ∀ x ∈ ts, ∀ r, ¬ IsR l i x r
  all : ∀ x, x < i → (∀ r, ¬ IsR l i x r) → x ∈ ts
theorem Tre.start (l : List Int) (o : List Int) : Tre l o.length 0 o [] :=
  ⟨rfl, fun x h => by omega, trivial, by simp, by simp, fun x h => by omega⟩
theorem Tre.top {l : List Int} {n i : Nat} {o : List Int} {ts : List Nat} (h : Tre l n i o ts) : ∀ z, z < i → (∀ t, ts.head? = some t → t < z) → False := by
  intro z hz ht
  have hi : i - 1 ∈ ts := h.all (i - 1) (by omega) (fun r hr => by have := hr.1; have := hr.2.1; omega)
  cases ts with
  | nil => cases hi
  | cons t r =>
    have h1 := ht t rfl
    rcases List.mem_cons.1 hi with e | e
    · omega
    · have := (h.stq.ge _ e).2
      have := h.lt t (by simp)
      omega
/-- Some are taken off the stack. -/
structure Popd (l : List Int) (i : Nat) (ts0 P ts : List Nat) : Prop where
  eq : ts0 = P ++ ts
  lo : ∀ x ∈ P, at0 l x < at0 l i
  g : ∀ z, z < i → (∀ t, ts.head? = some t → t < z) → at0 l z < at0 l i
theorem Tre.pop {l : List Int} {n i : Nat} {o : List Int} {ts : List Nat} (h : Tre l n i o ts) : Popd l i ts [] ts :=
  ⟨rfl, by simp, fun z hz ht => (h.top z hz ht).elim⟩
theorem Popd.more {l : List Int} {n i : Nat} {o : List Int} {ts0 P ts : List Nat} {t : Nat} (h0 : Tre l n i o ts0) (h : Popd l i ts0 P (t :: ts)) (ht : at0 l t < at0 l i) : Popd l i ts0 (P ++ [t]) ts := by
  have hs : StkQ l (t :: ts) := by have := h0.stq; rw [h.eq] at this; exact this.drop
  have htn : ∀ r, ¬ IsR l i t r := h0.nor t (by rw [h.eq]; simp)
  refine ⟨by rw [h.eq, List.append_assoc]; rfl, fun x hx => ?_, fun z hz hlt => ?_⟩
  · rcases List.mem_append.1 hx with hx | hx
    · exact h.lo x hx
    · rw [List.mem_singleton.1 hx]; exact ht
  · rcases Nat.lt_trichotomy z t with e | e | e
    · cases ts with
      | nil => have := noQ hs z e; omega
      | cons q r =>
        have := hs.1.2.2 z (hlt q rfl) e
        omega
    · rw [e]; exact ht
    · exact h.g z hz (fun t' ht' => by simp at ht'; omega)
/-- What is written at place i: first -1, then the last that was taken off gets its parent, then i gets one. -/
def treO (o : List Int) (i : Nat) (P ts : List Nat) : List Int :=
  let o1 := o.set i (-1)
  let o2 := match P.getLast? with | none => o1 | some x => o1.set x (i : Int)
  match ts with | [] => o2 | t :: _ => o2.set i (t : Int)
theorem treO_len (o : List Int) (i : Nat) (P ts : List Nat) : (treO o i P ts).length = o.length := by
  unfold treO; dsimp only; cases P.getLast? <;> cases ts <;> simp
theorem treO_at (o : List Int) (i : Nat) (P ts : List Nat) (hi : i < o.length) (hP : ∀ x ∈ P, x < i) :
    (treO o i P ts).getD i 0 = (match ts with | [] => -1 | t :: _ => (t : Int)) ∧ (∀ x, P.getLast? = some x → (treO o i P ts).getD x 0 = i) ∧ ∀ x, x ≠ i → P.getLast? ≠ some x → (treO o i P ts).getD x 0 = o.getD x 0 := by
  cases hp : P.getLast? with
  | none =>
    cases ts with
    | nil =>
      refine ⟨by simp [treO, hp, hi], by simp, fun x hx _ => ?_⟩
      simp [treO, hp, Ne.symm hx]
    | cons t r =>
      refine ⟨by simp [treO, hp, hi], by simp, fun x hx _ => ?_⟩
      simp [treO, hp, Ne.symm hx]
  | some y =>
    have hy := hP y (List.mem_of_getLast? hp)
    cases ts with
    | nil =>
      refine ⟨?_, ?_, fun x hx hxy => ?_⟩
      · simp [treO, hp, show y ≠ i by omega, hi]
      · intro x hx
        simp only [Option.some.injEq] at hx
        subst hx
        simp [treO, hp, show y < o.length by omega]
      · have : y ≠ x := fun e => hxy (by rw [e])
        simp [treO, hp, Ne.symm hx, this]
    | cons t r =>
      refine ⟨by simp [treO, hp, hi], ?_, fun x hx hxy => ?_⟩
      · intro x hx
        simp only [Option.some.injEq] at hx
        subst hx
        simp [treO, hp, show i ≠ y by omega, show y < o.length by omega]
      · have : y ≠ x := fun e => hxy (by rw [e])
        simp [treO, hp, Ne.symm hx, this]
theorem stk_next {l : List Int} {P ts : List Nat} {x : Nat} (h : StkQ l (P ++ ts)) (hx : x ∈ P) : (P.getLast? = some x ∧ StkQ l (x :: ts)) ∨ ∃ y ∈ P, IsQ l x y := by
  induction P with
  | nil => cases hx
  | cons a P ih =>
    cases P with
    | nil =>
      rw [List.mem_singleton] at hx
      subst hx
      exact .inl ⟨rfl, h⟩
    | cons b P =>
      rcases List.mem_cons.1 hx with rfl | hx
      · exact .inr ⟨b, by simp, h.1⟩
      · rcases ih h.2 hx with ⟨h1, h2⟩ | ⟨y, h1, h2⟩
        · exact .inl ⟨by rw [List.getLast?_cons_cons]; exact h1, h2⟩
        · exact .inr ⟨y, List.mem_cons_of_mem _ h1, h2⟩
theorem Tre.step {l : List Int} {n i : Nat} {o : List Int} {ts0 P ts : List Nat} (h : Tre l n i o ts0) (hi : i < n) (hp : Popd l i ts0 P ts) (hs : ∀ t, ts.head? = some t → at0 l i ≤ at0 l t) :
    Tre l n (i + 1) (treO o i P ts) (i :: ts) := by
  have hst := h.stq
  rw [hp.eq] at hst
  have hPi : ∀ x ∈ P, x < i := fun x hx => h.lt x (by rw [hp.eq]; simp [hx])
  obtain ⟨o1, o2, o3⟩ := treO_at o i P ts (by rw [h.len]; exact hi) hPi
  have htsd := hst.drop
  have hge : ∀ x ∈ ts, at0 l i ≤ at0 l x := by
    intro x hx
    cases ts with
    | nil => cases hx
    | cons t r =>
      have h1 := hs t rfl
      rcases List.mem_cons.1 hx with rfl | hx
      · exact h1
      · have := (htsd.ge x hx).1; omega
  have hQi : StkQ l (i :: ts) := by
    cases ts with
    | nil =>
      intro q hq
      have := hp.g q hq.1 (by simp)
      have := hq.2.1
      omega
    | cons t r => exact ⟨⟨h.lt t (by rw [hp.eq]; simp), hs t rfl, fun z h1 h2 => hp.g z h2 (fun t' ht' => by simp at ht'; omega)⟩, htsd⟩
  have hRi : ∀ x r, IsR l (i + 1) x r → IsR l i x r ∨ r = i := fun x r hr => by
    by_cases e : r = i
    · exact .inr e
    · exact .inl ⟨hr.1, by have := hr.2.1; omega, hr.2.2⟩
  have hPR : ∀ x ∈ P, IsR l (i + 1) x i := fun x hx => by
    have hn := noR (h.nor x (by rw [hp.eq]; simp [hx]))
    exact ⟨hPi x hx, by omega, hp.lo x hx, fun z h1 h2 => hn z h1 h2⟩
  have htsn : ∀ x ∈ ts, ∀ r, ¬ IsR l (i + 1) x r := fun x hx r hr => by
    rcases hRi x r hr with h1 | e
    · exact h.nor x (by rw [hp.eq]; simp [hx]) r h1
    · subst e
      have := hge x hx
      have := hr.2.2.1
      omega
  have hii : ∀ r, ¬ IsR l (i + 1) i r := fun r hr => by have := hr.1; have := hr.2.1; omega
  refine ⟨by rw [treO_len]; exact h.len, fun x hx => ?_, hQi, fun x hx => ?_, fun x hx => ?_, fun x hx hn => ?_⟩
  · by_cases hxi : x = i
    · subst hxi
      rw [o1]
      cases ts with
      | nil => exact .inr (.inr ⟨hQi, hii, rfl⟩)
      | cons t r => exact .inr (.inl ⟨t, hQi.1, rfl, fun r hr => absurd hr (hii r)⟩)
    · have hxlt : x < i := by omega
      by_cases hR : ∃ r, IsR l i x r
      · obtain ⟨r, hr⟩ := hR
        have hne : P.getLast? ≠ some x := fun e => h.nor x (by rw [hp.eq]; simp [List.mem_of_getLast? e]) r hr
        rw [o3 x hxi hne]
        refine (h.par x hxlt).same fun r' hr' => ?_
        rcases hRi x r' hr' with h1 | e
        · exact h1
        · subst e
          have h2 := hr'.2.2.2 r hr.1 hr.2.1
          have h3 := hr.2.2.1
          omega
      · have hn : ∀ r, ¬ IsR l i x r := fun r hr => hR ⟨r, hr⟩
        have hx0 := h.all x hxlt hn
        rw [hp.eq] at hx0
        rcases List.mem_append.1 hx0 with hxP | hxt
        · rcases stk_next hst hxP with ⟨h1, h2⟩ | ⟨y, h1, h2⟩
          · rw [o2 x h1]
            refine .inl ⟨i, hPR x hxP, rfl, fun q hq => ?_⟩
            cases ts with
            | nil => exact absurd hq (h2 q)
            | cons t r =>
              rw [hq.uniq h2.1]; exact hs t rfl
          · by_cases hl : P.getLast? = some x
            · -- the last of P: y stands in P behind it: not so
              exfalso
              have hQ : ∀ z ∈ P, z ≠ x → x < z := by
                intro z hz hzx
                obtain ⟨A, C, hA⟩ := List.append_of_mem hz
                have hlast : x ∈ C := by
                  rw [hA] at hl
                  cases C with
                  | nil => simp at hl; exact absurd hl hzx
                  | cons c C =>
                    have : (A ++ z :: c :: C).getLast? = (c :: C).getLast? := by simp [List.getLast?_append, List.getLast?_cons]
                    rw [this] at hl
                    exact List.mem_of_getLast? hl
                rw [hA, List.append_assoc] at hst
                exact (StkQ.ge (hst.drop) x (by simp [hlast])).2
              have := h2.1
              have := hQ y h1 (by omega)
              omega
            · rw [o3 x hxi hl, (h.par x hxlt).ofQ hn h2]
              refine .inr (.inl ⟨y, h2, rfl, fun r hr => ?_⟩)
              rw [hr.uniq (hPR x hxP)]
              exact hp.lo y h1
        · have hne : P.getLast? ≠ some x := fun e => htsn x hxt i (hPR x (List.mem_of_getLast? e))
          rw [o3 x hxi hne]
          exact (h.par x hxlt).same fun r hr => absurd hr (htsn x hxt r)
  · rcases List.mem_cons.1 hx with rfl | hx
    · omega
    · have := h.lt x (by rw [hp.eq]; simp [hx]); omega
  · rcases List.mem_cons.1 hx with rfl | hx
    · exact hii
    · exact htsn x hx
  · by_cases hxi : x = i
    · simp [hxi]
    · have h0 := h.all x (by omega) (fun r hr => hn r hr.more)
      rw [hp.eq] at h0
      rcases List.mem_append.1 h0 with h1 | h1
      · exact absurd (hPR x h1) (hn i)
      · simp [h1]

/-- y is greater than z, or as great and ahead, or z itself. -/
def Bts (l : List Int) (y z : Nat) : Prop := at0 l z < at0 l y ∨ (at0 l z = at0 l y ∧ y ≤ z)
/-- y stands above x. -/
def Anc (l : List Int) (y x : Nat) : Prop := ∀ z, (y ≤ z ∧ z ≤ x ∨ x ≤ z ∧ z ≤ y) → Bts l y z
theorem Anc.refl (l : List Int) (x : Nat) : Anc l x x := fun z hz => by
  obtain rfl : z = x := by omega
  exact .inr ⟨rfl, Nat.le_refl _⟩
theorem Bts.anti {l : List Int} {x y : Nat} (h : Bts l x y) (k : Bts l y x) : x = y := by
  unfold Bts at h k; omega
theorem Anc.trans {l : List Int} {p x c : Nat} (h : Anc l p x) (k : Anc l x c) : Anc l p c := fun z hz => by
  have h0 := h x (by omega)
  by_cases hc : (p ≤ z ∧ z ≤ x ∨ x ≤ z ∧ z ≤ p)
  · exact h z hc
  · have := k z (by omega)
    unfold Bts at *
    omega
theorem Anc.anti {l : List Int} {x y : Nat} (h : Anc l x y) (k : Anc l y x) : x = y := (h y (by omega)).anti (k x (by omega))
theorem par_up {l : List Int} {n x : Nat} {o : Int} (h : Par l n x o) (hx : x < n) (ho : 0 ≤ o) : ∃ p : Nat, o = p ∧ p < n ∧ p ≠ x ∧ Anc l p x ∧ at0 l x ≤ at0 l p ∧ ∀ y, y < n → Anc l y x → y ≠ x → Anc l y p := by
  rcases h with ⟨r, h1, h2, h3⟩ | ⟨q, h1, h2, h3⟩ | ⟨_, _, h3⟩
  · refine ⟨r, h2, h1.2.1, by have := h1.1; omega, fun z hz => ?_, by have := h1.2.2.1; omega, fun y hyn hy hne => ?_⟩
    · have e1 := h1.1
      have e2 := h1.2.2.1
      have e3 := h1.2.2.2 z
      unfold Bts
      by_cases z1 : z = x
      · subst z1; omega
      · by_cases z2 : z = r
        · subst z2; omega
        · have := e3 (by omega) (by omega); omega
    · intro z hz
      have e1 := h1.1
      have e2 := h1.2.2.1
      have e3 := h1.2.2.2
      have hyx := hy x (by omega)
      by_cases hlt : y < x
      · -- y stands ahead of x: it is as great as Q
        have hyx' : at0 l x ≤ at0 l y := by unfold Bts at hyx; omega
        have hq : ∃ q, IsQ l x q := by
          apply Classical.byContradiction
          intro hno
          have := noQ (fun q hq => hno ⟨q, hq⟩) y hlt
          omega
        obtain ⟨q, hq⟩ := hq
        have hyq : y ≤ q := by
          apply Classical.byContradiction
          intro hc
          have := hq.2.2 y (by omega) hlt
          omega
        have hqr := h3 q hq
        have hyq' := hy q (by have := hq.1; omega)
        by_cases hzx : z ≤ x
        · exact hy z (by omega)
        · unfold Bts at hyq' ⊢
          by_cases z2 : z = r
          · subst z2; omega
          · have := e3 z (by omega) (by omega)
            have := hq.2.1
            omega
      · have hxy : x < y := by omega
        have hgr : r ≤ y := by
          apply Classical.byContradiction
          intro hc
          have := e3 y hxy (by omega)
          unfold Bts at hyx
          omega
        exact hy z (by omega)
  · refine ⟨q, h2, by have := h1.1; omega, by have := h1.1; omega, fun z hz => ?_, h1.2.1, fun y hyn hy hne => ?_⟩
    · have e1 := h1.1
      have e2 := h1.2.1
      have e3 := h1.2.2 z
      unfold Bts
      by_cases z1 : z = x
      · subst z1; omega
      · by_cases z2 : z = q
        · subst z2; omega
        · have := e3 (by omega) (by omega); omega
    · intro z hz
      have e1 := h1.1
      have e2 := h1.2.1
      have e3 := h1.2.2
      have hyx := hy x (by omega)
      by_cases hlt : y < x
      · have hyx' : at0 l x ≤ at0 l y := by unfold Bts at hyx; omega
        have hyq : y ≤ q := by
          apply Classical.byContradiction
          intro hc
          have := e3 y (by omega) hlt
          omega
        exact hy z (by omega)
      · have hxy : x < y := by omega
        have hyx' : at0 l x < at0 l y := by unfold Bts at hyx; omega
        have hR : ∃ r, IsR l n x r := by
          apply Classical.byContradiction
          intro hno
          have := noR (fun r hr => hno ⟨r, hr⟩) y hxy hyn
          omega
        obtain ⟨r, hr⟩ := hR
        have hgr : r ≤ y := by
          apply Classical.byContradiction
          intro hc
          have := hr.2.2.2 y hxy (by omega)
          omega
        have hqr := h3 r hr
        have hyr := hy r (by have := hr.1; omega)
        by_cases hzx : x ≤ z
        · exact hy z (by omega)
        · unfold Bts at hyr ⊢
          by_cases z2 : z = q
          · subst z2; omega
          · have := e3 z (by omega) (by omega)
            omega
  · omega
theorem par_top {l : List Int} {n x : Nat} {o : Int} (h : Par l n x o) (hx : x < n) (ho : o < 0) : ∀ y, y < n → Anc l y x → y = x := by
  rcases h with ⟨r, h1, h2, h3⟩ | ⟨q, h1, h2, h3⟩ | ⟨h1, h2, _⟩
  · omega
  · omega
  · intro y hyn hy
    have hyx := hy x (by omega)
    rcases Nat.lt_trichotomy y x with e | e | e
    · have := noQ h1 y e
      unfold Bts at hyx
      omega
    · exact e
    · have := noR h2 y e hyn
      unfold Bts at hyx
      omega

/-- The way up from a place: those behind, and where it has come to. -/
structure Climb (l : List Int) (n i : Nat) (C : List Nat) (x : Nat) : Prop where
  xn : x < n
  up : Anc l x i
  cn : ∀ c ∈ C, c < n ∧ c ≠ x ∧ Anc l x c ∧ Anc l c i
  nd : C.Nodup
  all : ∀ y, y < n → Anc l y i → y ∈ C ∨ Anc l y x
theorem Climb.start {l : List Int} {n i : Nat} (hi : i < n) : Climb l n i [] i := ⟨hi, .refl l i, by simp, .nil, fun y _ h => .inr h⟩
theorem Climb.count {l : List Int} {n i : Nat} {C : List Nat} {x : Nat} (h : Climb l n i C x) : C.length + 1 ≤ n := by
  have hs : (x :: C) ⊆ List.range n := fun y hy => by
    rcases List.mem_cons.1 hy with rfl | hy
    · exact List.mem_range.2 h.xn
    · exact List.mem_range.2 (h.cn y hy).1
  have hnd : (x :: C).Nodup := List.nodup_cons.2 ⟨fun hm => (h.cn x hm).2.1 rfl, h.nd⟩
  have := hnd.length_le_of_subset hs
  simpa using this
theorem Climb.next {l : List Int} {n i : Nat} {C : List Nat} {x : Nat} {o : Int} (h : Climb l n i C x) (ho : Par l n x o) (h0 : 0 ≤ o) : ∃ p : Nat, o = p ∧ at0 l x ≤ at0 l p ∧ Climb l n i (x :: C) p := by
  obtain ⟨p, e, h1, h2, h3, h4, h5⟩ := par_up ho h.xn h0
  refine ⟨p, e, h4, h1, h3.trans h.up, fun c hc => ?_, List.nodup_cons.2 ⟨fun hm => (h.cn x hm).2.1 rfl, h.nd⟩, fun y hy hyi => ?_⟩
  · rcases List.mem_cons.1 hc with rfl | hc
    · exact ⟨h.xn, h2.symm, h3, h.up⟩
    · obtain ⟨c1, c2, c3, c4⟩ := h.cn c hc
      refine ⟨c1, fun e => ?_, h3.trans c3, c4⟩
      subst e
      exact c2 (h3.anti c3)
  · rcases h.all y hy hyi with h6 | h6
    · exact .inl (List.mem_cons_of_mem _ h6)
    · by_cases hyx : y = x
      · exact .inl (by simp [hyx])
      · exact .inr (h5 y hy h6 hyx)
/-- At the top all above are met. -/
theorem Climb.top {l : List Int} {n i : Nat} {C : List Nat} {x : Nat} {o : Int} (h : Climb l n i C x) (ho : Par l n x o) (h0 : o < 0) : ∀ y, y < n → Anc l y i → y ∈ x :: C := by
  intro y hy hyi
  rcases h.all y hy hyi with h6 | h6
  · exact List.mem_cons_of_mem _ h6
  · rw [par_top ho h.xn h0 y hy h6]; simp
/-- What stands above both ends, and below the top of the range, is that top. -/
theorem meet {l : List Int} {i k t x : Nat} (hik : i ≤ k) (ht : IsTop l i (k + 1 - i) t) (h1 : Anc l x i) (h2 : Anc l x k) (h3 : Anc l t x) : x = t := by
  have e1 := ht.1
  have e2 := ht.2.1
  have hx : Bts l x t := by
    by_cases hc : x ≤ t
    · exact h2 t (by omega)
    · exact h1 t (by omega)
  exact hx.anti (h3 x (by omega))
theorem top_anc {l : List Int} {i k t : Nat} (hik : i ≤ k) (ht : IsTop l i (k + 1 - i) t) : Anc l t i ∧ Anc l t k := by
  have e1 := ht.1
  have e2 := ht.2.1
  exact ⟨fun z hz => ht.2.2 z (by omega) (by omega), fun z hz => ht.2.2 z (by omega) (by omega)⟩

end Go.Proofs.Ytnieacfleabikaa

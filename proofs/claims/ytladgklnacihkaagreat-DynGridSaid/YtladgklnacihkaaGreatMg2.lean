import Derived.Test.YtladgklnacihkaaGreatMg0
/- cmp.Compare of integers. -/
namespace Go.Proofs.YtladgklnacihkaaGreat
set_option linter.unusedVariables false
open Go.RowKit

def cmpI (x y : Int) : Int := if x < y then -1 else if y < x then 1 else 0
def or3 (a b c : Int) : Int := if a ≠ 0 then a else if b ≠ 0 then b else c

set_option maxHeartbeats 400000 in
theorem cmpNaN_any (x : Int) (w : World) : Calls Tryz.prog 48 #[.int .i64 x] w fun e w' => e = .returned (.bool false) ∧ w = w' := by
  go_enter Tryz.func48, Tryz.ntmps48
  go_wp2
  go_ret
  exact ⟨by simp, rfl⟩

set_option maxHeartbeats 400000 in
theorem compare_any (x y : Int) (w : World) : Calls Tryz.prog 29 #[.int .i64 x, .int .i64 y] w fun e w' => e = .returned (.int .i64 (cmpI x y)) ∧ w = w' := by
  have C := Kp.mk (cmpNaN_any)
  have hor : (x < y ∧ Kp (cmpI x y = -1)) ∨ ((¬ x < y ∧ y < x) ∧ Kp (cmpI x y = 1)) ∨ ((¬ x < y ∧ ¬ y < x) ∧ Kp (cmpI x y = 0)) := by
    unfold cmpI
    by_cases h1 : x < y
    · exact .inl ⟨h1, ⟨if_pos h1⟩⟩
    · by_cases h2 : y < x
      · exact .inr (.inl ⟨⟨h1, h2⟩, ⟨by rw [if_neg h1, if_pos h2]⟩⟩)
      · exact .inr (.inr ⟨⟨h1, h2⟩, ⟨by rw [if_neg h1, if_neg h2]⟩⟩)
  rcases hor with ⟨h1, H⟩ | ⟨⟨h1, h2⟩, H⟩ | ⟨⟨h1, h2⟩, H⟩
  all_goals
    rw [H.out]
    clear H
    go_enter Tryz.func29, Tryz.ntmps29
    go_wp2_with (go_at_call 48; refine (C.out _ _).mono ?_; rintro e w' ⟨rfl, rfl⟩)
    go_ret
    exact ⟨rfl, rfl⟩


end Go.Proofs.YtladgklnacihkaaGreat

/- Heaps: the plain facts. -/
namespace Go.Proofs.YtladgklnacihkaaGreat.Hp
set_option linter.unusedVariables false

/-- A strict order, as a heap needs it. -/
structure Ord (lt : Nat → Nat → Bool) : Prop where
  asym : ∀ a b, lt a b = true → lt b a = false
  tr : ∀ a b c, lt a b = false → lt b c = false → lt a c = false
def swp (X : List Nat) (i j : Nat) : List Nat := (X.set i (X.getD j 0)).set j (X.getD i 0)
theorem swp_length (X : List Nat) (i j : Nat) : (swp X i j).length = X.length := by simp [swp]
theorem swp_get (X : List Nat) (i j k : Nat) (hi : i < X.length) (hj : j < X.length) : (swp X i j).getD k 0 = if k = j then X.getD i 0 else if k = i then X.getD j 0 else X.getD k 0 := by
  unfold swp
  simp only [List.getD, List.getElem?_set, List.length_set]
  by_cases h1 : k = j
  · subst h1; simp [hj]
  · rw [if_neg (fun e => h1 e.symm), if_neg h1]
    by_cases h2 : k = i
    · subst h2; simp [hi]
    · rw [if_neg (fun e => h2 e.symm), if_neg h2]
theorem swp_perm (X : List Nat) (i j : Nat) (hi : i < X.length) (hj : j < X.length) : (swp X i j).Perm X := by
  unfold swp
  rw [getD_at X 0 hi, getD_at X 0 hj]
  exact List.set_set_perm hi hj
def par (k : Nat) : Nat := (k - 1) / 2
/-- From the places behind lo on it is a heap. -/
def HeapF (lt : Nat → Nat → Bool) (X : List Nat) (n lo : Nat) : Prop := ∀ k, 0 < k → k < n → lo ≤ par k → lt (X.getD k 0) (X.getD (par k) 0) = false
def UpInv (lt : Nat → Nat → Bool) (X : List Nat) (n j : Nat) : Prop :=
  (∀ k, 0 < k → k < n → k ≠ j → lt (X.getD k 0) (X.getD (par k) 0) = false) ∧ ∀ k, 0 < k → k < n → par k = j → 0 < j → lt (X.getD k 0) (X.getD (par j) 0) = false
theorem up_end {lt : Nat → Nat → Bool} {X : List Nat} {n j : Nat} (h : UpInv lt X n j) (he : j = 0 ∨ lt (X.getD j 0) (X.getD (par j) 0) = false) : HeapF lt X n 0 := by
  intro k h0 hk _
  by_cases e : k = j
  · subst e
    rcases he with he | he
    · omega
    · exact he
  · exact h.1 k h0 hk e
theorem up_step {lt : Nat → Nat → Bool} (O : Ord lt) {X : List Nat} {n j p : Nat} (hX : X.length = n) (h : UpInv lt X n j) (h0 : 0 < j) (hj : j < n) (hp : par j = p) (hlt : lt (X.getD j 0) (X.getD p 0) = true) : UpInv lt (swp X p j) n p := by
  have hpj : p < j := by unfold par at hp; omega
  have g := fun k => swp_get X p j k (by omega) (by omega)
  refine ⟨fun k k0 kn kp => ?_, fun k k0 kn kp p0 => ?_⟩
  · rw [g k, g (par k)]
    by_cases e1 : k = j
    · subst e1
      rw [if_pos rfl, hp, if_neg (by omega), if_pos rfl]
      exact O.asym _ _ hlt
    · rw [if_neg e1, if_neg kp]
      by_cases e2 : par k = j
      · rw [if_pos e2]
        have := h.2 k k0 kn e2 h0
        rwa [hp] at this
      · rw [if_neg e2]
        have hk := h.1 k k0 kn e1
        by_cases e3 : par k = p
        · rw [if_pos e3]
          rw [e3] at hk
          exact O.tr _ _ _ hk (O.asym _ _ hlt)
        · rw [if_neg e3]; exact hk
  · have hpp : par p < p := by unfold par; omega
    rw [g k, g (par p), if_neg (by omega : ¬ par p = j), if_neg (by omega : ¬ par p = p)]
    have h2 := h.1 p p0 (by omega) (by omega)
    by_cases e1 : k = j
    · rw [if_pos e1]; exact h2
    · have hkp : k ≠ p := fun e => by subst e; unfold par at kp; omega
      rw [if_neg e1, if_neg hkp]
      have h3 := h.1 k k0 kn e1
      rw [kp] at h3
      exact O.tr _ _ _ h3 h2
def DownInv (lt : Nat → Nat → Bool) (X : List Nat) (n lo i : Nat) : Prop :=
  lo ≤ i ∧ (∀ k, 0 < k → k < n → lo ≤ par k → par k ≠ i → lt (X.getD k 0) (X.getD (par k) 0) = false) ∧ ∀ k, 0 < k → k < n → par k = i → 0 < i → lo ≤ par i → lt (X.getD k 0) (X.getD (par i) 0) = false
theorem down_start {lt : Nat → Nat → Bool} {X : List Nat} {n lo : Nat} (h : HeapF lt X n (lo + 1)) : DownInv lt X n lo lo :=
  ⟨Nat.le_refl _, fun k h0 hk hl hne => h k h0 hk (by omega), fun k _ _ _ h0 hl => by unfold par at hl; omega⟩
theorem down_end {lt : Nat → Nat → Bool} {X : List Nat} {n lo i : Nat} (h : DownInv lt X n lo i) (he : ∀ k, 0 < k → k < n → par k = i → lt (X.getD k 0) (X.getD i 0) = false) : HeapF lt X n lo := by
  intro k h0 hk hl
  by_cases e : par k = i
  · rw [e]; exact he k h0 hk e
  · exact h.2.1 k h0 hk hl e
theorem down_step {lt : Nat → Nat → Bool} (O : Ord lt) {X : List Nat} {n lo i c : Nat} (hX : n ≤ X.length) (h : DownInv lt X n lo i) (hc0 : 0 < c) (hc : c < n) (hp : par c = i) (hlt : lt (X.getD c 0) (X.getD i 0) = true)
    (hmin : ∀ k, 0 < k → k < n → par k = i → lt (X.getD k 0) (X.getD c 0) = false) : DownInv lt (swp X i c) n lo c := by
  obtain ⟨hli, h1, h2⟩ := h
  have hic : i < c := by unfold par at hp; omega
  have g := fun k => swp_get X i c k (by omega) (by omega)
  refine ⟨by omega, fun k k0 kn kl kp => ?_, fun k k0 kn kp c0 cl => ?_⟩
  · rw [g k, g (par k), if_neg kp]
    by_cases e1 : par k = i
    · rw [if_pos e1]
      by_cases e2 : k = c
      · rw [if_pos e2]; exact O.asym _ _ hlt
      · have hki : k ≠ i := fun e => by subst e; unfold par at e1; omega
        rw [if_neg e2, if_neg hki]; exact hmin k k0 kn e1
    · rw [if_neg e1]
      by_cases e2 : k = c
      · subst e2; exact absurd hp e1
      · rw [if_neg e2]
        by_cases e3 : k = i
        · subst e3
          rw [if_pos rfl]
          exact h2 c hc0 hc hp k0 kl
        · rw [if_neg e3]; exact h1 k k0 kn kl e1
  · rw [hp, g k, g i, if_neg (by omega : ¬ i = c), if_pos rfl]
    have hkc : k ≠ c := fun e => by subst e; unfold par at kp; omega
    have hki : k ≠ i := fun e => by subst e; unfold par at kp; omega
    rw [if_neg hkc, if_neg hki]
    have := h1 k k0 kn (by omega) (by omega)
    rwa [kp] at this
/-- Nothing is ahead of the root. -/
theorem heap_root {lt : Nat → Nat → Bool} (O : Ord lt) {X : List Nat} {n : Nat} (h : HeapF lt X n 0) : ∀ k, k < n → lt (X.getD k 0) (X.getD 0 0) = false := by
  intro k
  induction k using Nat.strongRecOn with
  | _ k ih =>
    intro hk
    by_cases e : k = 0
    · subst e
      cases hl : lt (X.getD 0 0) (X.getD 0 0) with
      | false => rfl
      | true => have := O.asym _ _ hl; rw [hl] at this; exact this
    · have h1 := ih (par k) (by unfold par; omega) (by unfold par; omega)
      exact O.tr _ _ _ (h k (by omega) hk (Nat.zero_le _)) h1
theorem heap_none {lt : Nat → Nat → Bool} (X : List Nat) (n : Nat) : HeapF lt X n (n / 2) := fun k h0 hk hl => by unfold par at hl; omega
theorem push_up {lt : Nat → Nat → Bool} {X : List Nat} {n x : Nat} (hX : X.length = n) (h : HeapF lt X n 0) : UpInv lt (X ++ [x]) (n + 1) n := by
  have g : ∀ k, k < n → (X ++ [x]).getD k 0 = X.getD k 0 := fun k hk => by
    simp only [List.getD, List.getElem?_append_left (show k < X.length by omega)]
  refine ⟨fun k k0 kn kne => ?_, fun k k0 kn kp n0 => by unfold par at kp; omega⟩
  rw [g k (by omega), g (par k) (by unfold par; omega)]
  exact h k k0 (by omega) (Nat.zero_le _)
theorem pop_down {lt : Nat → Nat → Bool} {X : List Nat} {m : Nat} (hX : X.length = m + 1) (h : HeapF lt X (m + 1) 0) : DownInv lt (swp X 0 m) m 0 0 := by
  have g := fun k => swp_get X 0 m k (by omega) (by omega)
  refine ⟨Nat.le_refl _, fun k k0 km _ kne => ?_, fun k _ _ _ h0 => by omega⟩
  rw [g k, g (par k), if_neg (by omega), if_neg (by omega), if_neg (by unfold par; omega), if_neg kne]
  exact h k k0 (by omega) (Nat.zero_le _)

end Go.Proofs.YtladgklnacihkaaGreat.Hp

/- Who is near: the plain facts. -/
namespace Go.Proofs.YtladgklnacihkaaGreat.Hp
set_option linter.unusedVariables false

/-- a is nearer than b. -/
def nlt (far : Nat → Int) (a b : Nat) : Bool := decide (far a < far b ∨ (far a = far b ∧ a < b))
theorem nlt_iff (far : Nat → Int) (a b : Nat) : nlt far a b = true ↔ (far a < far b ∨ (far a = far b ∧ a < b)) := by unfold nlt; rw [decide_eq_true_eq]
theorem nlt_not (far : Nat → Int) (a b : Nat) : nlt far a b = false ↔ ¬ (far a < far b ∨ (far a = far b ∧ a < b)) := by unfold nlt; rw [decide_eq_false_iff_not]
theorem nlt_ord (far : Nat → Int) : Ord (fun a b => nlt far b a) := by
  refine ⟨fun a b h => ?_, fun a b c h1 h2 => ?_⟩
  · rw [nlt_not]; have := (nlt_iff _ _ _).1 h; omega
  · rw [nlt_not]; have := (nlt_not _ _ _).1 h1; have := (nlt_not _ _ _).1 h2; omega
theorem nlt_tot {far : Nat → Int} {a b : Nat} (h : nlt far a b = false) (hne : a ≠ b) : nlt far b a = true := by
  rw [nlt_iff]; have := (nlt_not _ _ _).1 h; omega
theorem nlt_tr {far : Nat → Int} {a b c : Nat} (h1 : nlt far a b = true) (h2 : nlt far b c = true) : nlt far a c = true := by
  rw [nlt_iff]; have := (nlt_iff _ _ _).1 h1; have := (nlt_iff _ _ _).1 h2; omega
theorem nlt_irr (far : Nat → Int) (a : Nat) : nlt far a a = false := by rw [nlt_not]; omega
theorem nlt_asym {far : Nat → Int} {a b : Nat} (h1 : nlt far a b = true) : nlt far b a = false := by
  rw [nlt_not]; have := (nlt_iff _ _ _).1 h1; omega
/-- K: the nearest of S, so many. -/
structure Best (far : Nat → Int) (many : Nat) (S K : List Nat) : Prop where
  nd : K.Nodup
  sub : ∀ t ∈ K, t ∈ S
  len : K.length = min many S.length
  best : ∀ s ∈ S, s ∉ K → ∀ t ∈ K, nlt far t s = true
theorem Best.perm {far : Nat → Int} {many : Nat} {S K K' : List Nat} (h : Best far many S K) (p : K'.Perm K) : Best far many S K' :=
  ⟨p.nodup_iff.2 h.nd, fun t ht => h.sub t (p.mem_iff.1 ht), by rw [p.length_eq]; exact h.len, fun s hs hn t ht => h.best s hs (fun hc => hn (p.mem_iff.2 hc)) t (p.mem_iff.1 ht)⟩
theorem Best.perm2 {far : Nat → Int} {many : Nat} {S S' K : List Nat} (h : Best far many S K) (p : S'.Perm S) : Best far many S' K :=
  ⟨h.nd, fun t ht => p.mem_iff.2 (h.sub t ht), by rw [p.length_eq]; exact h.len, fun s hs hn t ht => h.best s (p.mem_iff.1 hs) hn t ht⟩
theorem best_nil (far : Nat → Int) (many : Nat) : Best far many [] [] := ⟨List.nodup_nil, by simp, by simp, by simp⟩
theorem all_in {S K : List Nat} (hS : S.Nodup) (hK : K.Nodup) (h : ∀ t ∈ K, t ∈ S) (hl : K.length = S.length) : ∀ s ∈ S, s ∈ K := by
  intro s hs
  by_cases e : s ∈ K
  · exact e
  · exfalso
    have h1 : (s :: K).Nodup := List.nodup_cons.2 ⟨e, hK⟩
    have h2 := List.Nodup.length_le_of_subset h1 (l₂ := S) (fun t ht => by
      rcases List.mem_cons.1 ht with rfl | ht
      · exact hs
      · exact h t ht)
    simp at h2
    omega
theorem best_few {far : Nat → Int} {many x : Nat} {S K : List Nat} (hS : (x :: S).Nodup) (h : Best far many S K) (hl : K.length < many) : Best far many (x :: S) (K ++ [x]) := by
  have h1 := h.len
  obtain ⟨hx, hS'⟩ := List.nodup_cons.1 hS
  have hall := all_in hS' h.nd h.sub (by omega)
  refine ⟨List.nodup_append.2 ⟨h.nd, by simp, fun a ha b hb e => ?_⟩, fun t ht => ?_, by simp; omega, fun s hs hn => ?_⟩
  · rw [List.mem_singleton.1 hb] at e; subst e; exact hx (h.sub _ ha)
  · rcases List.mem_append.1 ht with ht | ht
    · exact List.mem_cons_of_mem _ (h.sub t ht)
    · rw [List.mem_singleton.1 ht]; exact List.mem_cons_self
  · exfalso
    rcases List.mem_cons.1 hs with rfl | hs
    · exact hn (List.mem_append_right _ (List.mem_singleton.2 rfl))
    · exact hn (List.mem_append_left _ (hall s hs))
theorem best_full {far : Nat → Int} {many x m : Nat} {S K K3 : List Nat} (hS : (x :: S).Nodup) (h : Best far many S K) (hl : K.length = many) (hp : (m :: K3).Perm (K ++ [x])) (hm : ∀ t ∈ K ++ [x], nlt far m t = false) : Best far many (x :: S) K3 := by
  have h1 := h.len
  obtain ⟨hx, hS'⟩ := List.nodup_cons.1 hS
  have hnd : (K ++ [x]).Nodup := List.nodup_append.2 ⟨h.nd, by simp, fun a ha b hb e => by rw [List.mem_singleton.1 hb] at e; subst e; exact hx (h.sub _ ha)⟩
  obtain ⟨hm3, hnd3⟩ := List.nodup_cons.1 (hp.nodup_iff.2 hnd)
  have hmem : ∀ t ∈ K3, t ∈ K ++ [x] := fun t ht => hp.mem_iff.1 (List.mem_cons_of_mem _ ht)
  have hmm : m ∈ K ++ [x] := hp.mem_iff.1 List.mem_cons_self
  have hne : ∀ t ∈ K3, nlt far t m = true := fun t ht => nlt_tot (hm t (hmem t ht)) (fun e => hm3 (e ▸ ht))
  refine ⟨hnd3, fun t ht => ?_, ?_, fun s hs hn t ht => ?_⟩
  · rcases List.mem_append.1 (hmem t ht) with h2 | h2
    · exact List.mem_cons_of_mem _ (h.sub t h2)
    · rw [List.mem_singleton.1 h2]; exact List.mem_cons_self
  · have := hp.length_eq
    simp at this
    simp; omega
  · by_cases e : s = m
    · subst e; exact hne t ht
    · have hsK : s ∉ K ++ [x] := fun hc => by
        rcases List.mem_cons.1 (hp.mem_iff.2 hc) with h2 | h2
        · exact e h2
        · exact hn h2
      have hsx : s ≠ x := fun e2 => hsK (by rw [e2]; simp)
      have hsS : s ∈ S := by
        rcases List.mem_cons.1 hs with h2 | h2
        · exact absurd h2 hsx
        · exact h2
      have hsK' : s ∉ K := fun hc => hsK (List.mem_append_left _ hc)
      rcases List.mem_append.1 (hmem t ht) with h2 | h2
      · exact h.best s hsS hsK' t h2
      · have htx : t = x := List.mem_singleton.1 h2
        have hmK : m ∈ K := by
          rcases List.mem_append.1 hmm with h3 | h3
          · exact h3
          · exact absurd (by rw [List.mem_singleton.1 h3, ← htx]; exact ht) hm3
        exact nlt_tr (hne t ht) (h.best s hsS hsK' m hmK)
theorem best_skip {far : Nat → Int} {many : Nat} {S K Y : List Nat} (h : Best far many S K) (hl : K.length = many) (hy : ∀ y ∈ Y, ∀ t ∈ K, nlt far t y = true) : Best far many (Y ++ S) K := by
  have h1 := h.len
  refine ⟨h.nd, fun t ht => List.mem_append_right _ (h.sub t ht), by simp; omega, fun s hs hn t ht => ?_⟩
  rcases List.mem_append.1 hs with hs | hs
  · exact hy s hs t ht
  · exact h.best s hs hn t ht
/-- What Nearest tells. -/
structure IsNear (far : Nat → Int) (n k : Nat) (out : List Nat) : Prop where
  pw : out.Pairwise (fun a b => nlt far a b = true)
  lt : ∀ x ∈ out, x < n
  len : out.length = min k n
  rest : ∀ s, s < n → s ∉ out → ∀ t ∈ out, nlt far t s = true
theorem near_of {far : Nat → Int} {n k : Nat} {S K out : List Nat} (hS : S.Perm (List.range n)) (h : Best far k S K) (hp : out.Perm K) (hw : out.Pairwise (fun a b => nlt far a b = true)) : IsNear far n k out := by
  have hl := hS.length_eq
  rw [List.length_range] at hl
  have hm : ∀ s, s ∈ S ↔ s < n := fun s => by rw [hS.mem_iff, List.mem_range]
  refine ⟨hw, fun x hx => (hm x).1 (h.sub x (hp.mem_iff.1 hx)), by rw [hp.length_eq, h.len, hl], fun s hs hn t ht => h.best s ((hm s).2 hs) (fun hc => hn (hp.mem_iff.2 hc)) t (hp.mem_iff.1 ht)⟩
theorem sorted_eq {far : Nat → Int} : ∀ (a b : List Nat), a.Pairwise (fun a b => nlt far a b = true) → b.Pairwise (fun a b => nlt far a b = true) → (∀ x, x ∈ a ↔ x ∈ b) → a = b
  | [], [], _, _, _ => rfl
  | [], y :: b, _, _, h => absurd ((h y).2 List.mem_cons_self) List.not_mem_nil
  | x :: a, [], _, _, h => absurd ((h x).1 List.mem_cons_self) List.not_mem_nil
  | x :: a, y :: b, ha, hb, h => by
    obtain ⟨a1, a2⟩ := List.pairwise_cons.1 ha
    obtain ⟨b1, b2⟩ := List.pairwise_cons.1 hb
    have e : x = y := by
      by_cases e : x = y
      · exact e
      · exfalso
        have hx : x ∈ b := by
          rcases List.mem_cons.1 ((h x).1 List.mem_cons_self) with h1 | h1
          · exact absurd h1 e
          · exact h1
        have hy : y ∈ a := by
          rcases List.mem_cons.1 ((h y).2 List.mem_cons_self) with h1 | h1
          · exact absurd h1.symm e
          · exact h1
        have h1 := nlt_asym (a1 y hy)
        rw [b1 x hx] at h1
        cases h1
    subst e
    have hxa : x ∉ a := fun hx => by have := a1 x hx; rw [nlt_irr] at this; cases this
    have hxb : x ∉ b := fun hx => by have := b1 x hx; rw [nlt_irr] at this; cases this
    rw [sorted_eq a b a2 b2 (fun z => ?_)]
    constructor
    · intro hz
      rcases List.mem_cons.1 ((h z).1 (List.mem_cons_of_mem _ hz)) with h1 | h1
      · subst h1; exact absurd hz hxa
      · exact h1
    · intro hz
      rcases List.mem_cons.1 ((h z).2 (List.mem_cons_of_mem _ hz)) with h1 | h1
      · subst h1; exact absurd hz hxb
      · exact h1
theorem pw_nodup {far : Nat → Int} {a : List Nat} (h : a.Pairwise (fun a b => nlt far a b = true)) : a.Nodup :=
  h.imp (fun {x y} hxy e => by subst e; rw [nlt_irr] at hxy; cases hxy)
theorem near_unique {far : Nat → Int} {n k : Nat} {a b : List Nat} (ha : IsNear far n k a) (hb : IsNear far n k b) : a = b := by
  have key : ∀ {a b : List Nat}, IsNear far n k a → IsNear far n k b → ∀ x ∈ a, x ∈ b := by
    intro a b ha hb x hx
    by_cases h : x ∈ b
    · exact h
    · exfalso
      have hy : ∃ y, y ∈ b ∧ y ∉ a := by
        refine Classical.byContradiction fun hc => h ?_
        have hs : ∀ t ∈ b, t ∈ a := fun t ht => by
          by_cases e : t ∈ a
          · exact e
          · exact absurd ⟨t, ht, e⟩ hc
        exact all_in (pw_nodup ha.pw) (pw_nodup hb.pw) hs (by rw [ha.len, hb.len]) x hx
      obtain ⟨y, hy1, hy2⟩ := hy
      have h1 := ha.rest y (hb.lt y hy1) hy2 x hx
      have h2 := hb.rest x (ha.lt x hx) h y hy1
      have h3 := nlt_asym h1
      rw [h2] at h3
      cases h3
  exact sorted_eq a b ha.pw hb.pw (fun x => ⟨key ha hb x, key hb ha x⟩)
theorem near_congr {far far' : Nat → Int} {n k : Nat} {a : List Nat} (h : ∀ i, i < n → far i = far' i) (ha : IsNear far n k a) : IsNear far' n k a := by
  have e : ∀ x y, x < n → y < n → nlt far x y = nlt far' x y := fun x y hx hy => by unfold nlt; rw [h x hx, h y hy]
  refine ⟨ha.pw.imp_of_mem (fun hx hy hxy => by rw [← e _ _ (ha.lt _ hx) (ha.lt _ hy)]; exact hxy), ha.lt, ha.len, fun s hs hn t ht => by rw [← e _ _ (ha.lt t ht) hs]; exact ha.rest s hs hn t ht⟩
/-- What Closest tells. -/
structure IsClosest (d : Nat → Nat → Int) (n A B : Nat) : Prop where
  ab : A < B
  bn : B < n
  best : ∀ a b, a < b → b < n → d A B < d a b ∨ (d A B = d a b ∧ (A < a ∨ (A = a ∧ B ≤ b)))
theorem closest_unique {d : Nat → Nat → Int} {n A B A' B' : Nat} (h : IsClosest d n A B) (h' : IsClosest d n A' B') : A = A' ∧ B = B' := by
  have h1 := h.best A' B' h'.ab h'.bn
  have h2 := h'.best A B h.ab h.bn
  omega
theorem closest_congr {d d' : Nat → Nat → Int} {n A B : Nat} (hd : ∀ a b, a < n → b < n → d a b = d' a b) (h : IsClosest d n A B) : IsClosest d' n A B := by
  have ab := h.ab
  have bn := h.bn
  refine ⟨ab, bn, fun a b h1 h2 => ?_⟩
  rw [← hd A B (by omega) bn, ← hd a b (by omega) h2]
  exact h.best a b h1 h2
/-- The two nearest of a point of the closest pair. -/
theorem closest_two {d : Nat → Nat → Int} {n A B x y : Nat} (hs : ∀ a b, d a b = d b a) (h0 : ∀ a, d a a = 0) (hn : ∀ a b, 0 ≤ d a b) (h : IsClosest d n A B) (hN : IsNear (fun i => d i A) n 2 [x, y]) : max (d x A) (d y A) = d A B := by
  have ab := h.ab
  have bn := h.bn
  have hxy := (List.pairwise_cons.1 hN.pw).1 y (by simp)
  have hx := hN.lt x (by simp)
  have hy := hN.lt y (by simp)
  rw [nlt_iff] at hxy
  have pos : ∀ t, t < n → t ≠ A → d A B ≤ d t A := fun t ht hne => by
    by_cases e : t < A
    · have := h.best t A e (by omega); omega
    · have := h.best A t (by omega) ht
      rw [hs t A]; omega
  have hB := hs B A
  have n1 := hn x A
  have n2 := hn y A
  have n3 := hn A B
  have hAA := h0 A
  by_cases hxA : x = A
  · subst hxA
    rw [hAA]
    have hyA : y ≠ x := fun e => by subst e; omega
    have h1 := pos y hy hyA
    by_cases hyB : y = B
    · subst hyB; omega
    · have h2 := hN.rest B bn (by simp; omega) y (by simp)
      rw [nlt_iff] at h2

      omega
  · by_cases hyA : y = A
    · subst hyA
      rw [hAA]
      have h1 := pos x hx hxA
      omega
    · have h1 := hN.rest A (by omega) (by simp; omega) x (by simp)
      have h2 := hN.rest A (by omega) (by simp; omega) y (by simp)
      rw [nlt_iff] at h1 h2

      have h3 := pos x hx hxA
      omega
/-- A tree of places. -/
inductive KT where
  | nil : KT
  | node (m : Nat) (l r : KT) : KT
def KT.pl : KT → List Nat
  | .nil => []
  | .node m l r => m :: (l.pl ++ r.pl)
def KD (c : Nat → Nat → Int) : Nat → KT → Prop
  | _, .nil => True
  | d, .node m l r => (∀ y ∈ l.pl, c d y ≤ c d m) ∧ (∀ y ∈ r.pl, c d m ≤ c d y) ∧ KD c (d + 1) l ∧ KD c (d + 1) r

end Go.Proofs.YtladgklnacihkaaGreat.Hp


import Derived.Test.YteeeikninigeoaaGreatDoorMg29
import Derived.Test.YteeeikninigeoaaGreatDoorMg4
import Derived.Test.YteeeikninigeoaaGreatDoorMg2
import Derived.Test.YteeeikninigeoaaGreatDoorMg30
import Derived.Test.YteeeikninigeoaaGreatDoorMg0
import Derived.StillTailTactics
import Derived.Sort.OwnSortedInts
/- Who is near: the plain facts. -/
namespace Go.Proofs.YteeeikninigeoaaGreatDoor.Hp
set_option linter.unusedVariables false

/-- a is nearer than b. -/
def nlt (far : Nat → Int) (a b : Nat) : Bool := decide (far a < far b ∨ (far a = far b ∧ a < b))
theorem nlt_iff (far : Nat → Int) (a b : Nat) : nlt far a b = true ↔ (far a < far b ∨ (far a = far b ∧ a < b)) := by unfold nlt; rw [decide_eq_true_eq]
theorem nlt_not (far : Nat → Int) (a b : Nat) : nlt far a b = false ↔ ¬ (far a < far b ∨ (far a = far b ∧ a < b)) := by unfold nlt; rw [decide_eq_false_iff_not]
theorem nlt_ord (far : Nat → Int) : Ord (fun a b => nlt far b a) := by
  refine ⟨fun a b h => ?_, fun a b c h1 h2 => ?_⟩
  · rw [nlt_not]; have := (nlt_iff _ _ _).1 h; omega
  · rw [nlt_not]; have := (nlt_not _ _ _).1 h1; have := (nlt_not _ _ _).1 h2; omega
theorem nlt_tot {far : Nat → Int} {a b : Nat} (h : nlt far a b = false) (hne : a ≠ b) : nlt far b a = true := by
  rw [nlt_iff]; have := (nlt_not _ _ _).1 h; omega
theorem nlt_tr {far : Nat → Int} {a b c : Nat} (h1 : nlt far a b = true) (h2 : nlt far b c = true) : nlt far a c = true := by
  rw [nlt_iff]; have := (nlt_iff _ _ _).1 h1; have := (nlt_iff _ _ _).1 h2; omega
theorem nlt_irr (far : Nat → Int) (a : Nat) : nlt far a a = false := by rw [nlt_not]; omega
theorem nlt_asym {far : Nat → Int} {a b : Nat} (h1 : nlt far a b = true) : nlt far b a = false := by
  rw [nlt_not]; have := (nlt_iff _ _ _).1 h1; omega
/-- K: the nearest of S, so many. -/
structure Best (far : Nat → Int) (many : Nat) (S K : List Nat) : Prop where
  nd : K.Nodup
  sub : ∀ t ∈ K, t ∈ S
  len : K.length = min many S.length
  best : ∀ s ∈ S, s ∉ K → ∀ t ∈ K, nlt far t s = true
theorem Best.perm {far : Nat → Int} {many : Nat} {S K K' : List Nat} (h : Best far many S K) (p : K'.Perm K) : Best far many S K' :=
  ⟨p.nodup_iff.2 h.nd, fun t ht => h.sub t (p.mem_iff.1 ht), by rw [p.length_eq]; exact h.len, fun s hs hn t ht => h.best s hs (fun hc => hn (p.mem_iff.2 hc)) t (p.mem_iff.1 ht)⟩
theorem Best.perm2 {far : Nat → Int} {many : Nat} {S S' K : List Nat} (h : Best far many S K) (p : S'.Perm S) : Best far many S' K :=
  ⟨h.nd, fun t ht => p.mem_iff.2 (h.sub t ht), by rw [p.length_eq]; exact h.len, fun s hs hn t ht => h.best s (p.mem_iff.1 hs) hn t ht⟩
theorem best_nil (far : Nat → Int) (many : Nat) : Best far many [] [] := ⟨List.nodup_nil, by simp, by simp, by simp⟩
theorem all_in {S K : List Nat} (hS : S.Nodup) (hK : K.Nodup) (h : ∀ t ∈ K, t ∈ S) (hl : K.length = S.length) : ∀ s ∈ S, s ∈ K := by
  intro s hs
  by_cases e : s ∈ K
  · exact e
  · exfalso
    have h1 : (s :: K).Nodup := List.nodup_cons.2 ⟨e, hK⟩
    have h2 := List.Nodup.length_le_of_subset h1 (l₂ := S) (fun t ht => by
      rcases List.mem_cons.1 ht with rfl | ht
      · exact hs
      · exact h t ht)
    simp at h2
    omega
theorem best_few {far : Nat → Int} {many x : Nat} {S K : List Nat} (hS : (x :: S).Nodup) (h : Best far many S K) (hl : K.length < many) : Best far many (x :: S) (K ++ [x]) := by
  have h1 := h.len
  obtain ⟨hx, hS'⟩ := List.nodup_cons.1 hS
  have hall := all_in hS' h.nd h.sub (by omega)
  refine ⟨List.nodup_append.2 ⟨h.nd, by simp, fun a ha b hb e => ?_⟩, fun t ht => ?_, by simp; omega, fun s hs hn => ?_⟩
  · rw [List.mem_singleton.1 hb] at e; subst e; exact hx (h.sub _ ha)
  · rcases List.mem_append.1 ht with ht | ht
    · exact List.mem_cons_of_mem _ (h.sub t ht)
    · rw [List.mem_singleton.1 ht]; exact List.mem_cons_self
  · exfalso
    rcases List.mem_cons.1 hs with rfl | hs
    · exact hn (List.mem_append_right _ (List.mem_singleton.2 rfl))
    · exact hn (List.mem_append_left _ (hall s hs))
theorem best_full {far : Nat → Int} {many x m : Nat} {S K K3 : List Nat} (hS : (x :: S).Nodup) (h : Best far many S K) (hl : K.length = many) (hp : (m :: K3).Perm (K ++ [x])) (hm : ∀ t ∈ K ++ [x], nlt far m t = false) : Best far many (x :: S) K3 := by
  have h1 := h.len
  obtain ⟨hx, hS'⟩ := List.nodup_cons.1 hS
  have hnd : (K ++ [x]).Nodup := List.nodup_append.2 ⟨h.nd, by simp, fun a ha b hb e => by rw [List.mem_singleton.1 hb] at e; subst e; exact hx (h.sub _ ha)⟩
  obtain ⟨hm3, hnd3⟩ := List.nodup_cons.1 (hp.nodup_iff.2 hnd)
  have hmem : ∀ t ∈ K3, t ∈ K ++ [x] := fun t ht => hp.mem_iff.1 (List.mem_cons_of_mem _ ht)
  have hmm : m ∈ K ++ [x] := hp.mem_iff.1 List.mem_cons_self
  have hne : ∀ t ∈ K3, nlt far t m = true := fun t ht => nlt_tot (hm t (hmem t ht)) (fun e => hm3 (e ▸ ht))
  refine ⟨hnd3, fun t ht => ?_, ?_, fun s hs hn t ht => ?_⟩
  · rcases List.mem_append.1 (hmem t ht) with h2 | h2
    · exact List.mem_cons_of_mem _ (h.sub t h2)
    · rw [List.mem_singleton.1 h2]; exact List.mem_cons_self
  · have := hp.length_eq
    simp at this
    simp; omega
  · by_cases e : s = m
    · subst e; exact hne t ht
    · have hsK : s ∉ K ++ [x] := fun hc => by
        rcases List.mem_cons.1 (hp.mem_iff.2 hc) with h2 | h2
        · exact e h2
        · exact hn h2
      have hsx : s ≠ x := fun e2 => hsK (by rw [e2]; simp)
      have hsS : s ∈ S := by
        rcases List.mem_cons.1 hs with h2 | h2
        · exact absurd h2 hsx
        · exact h2
      have hsK' : s ∉ K := fun hc => hsK (List.mem_append_left _ hc)
      rcases List.mem_append.1 (hmem t ht) with h2 | h2
      · exact h.best s hsS hsK' t h2
      · have htx : t = x := List.mem_singleton.1 h2
        have hmK : m ∈ K := by
          rcases List.mem_append.1 hmm with h3 | h3
          · exact h3
          · exact absurd (by rw [List.mem_singleton.1 h3, ← htx]; exact ht) hm3
        exact nlt_tr (hne t ht) (h.best s hsS hsK' m hmK)
theorem best_skip {far : Nat → Int} {many : Nat} {S K Y : List Nat} (h : Best far many S K) (hl : K.length = many) (hy : ∀ y ∈ Y, ∀ t ∈ K, nlt far t y = true) : Best far many (Y ++ S) K := by
  have h1 := h.len
  refine ⟨h.nd, fun t ht => List.mem_append_right _ (h.sub t ht), by simp; omega, fun s hs hn t ht => ?_⟩
  rcases List.mem_append.1 hs with hs | hs
  · exact hy s hs t ht
  · exact h.best s hs hn t ht
/-- What Nearest tells. -/
structure IsNear (far : Nat → Int) (n k : Nat) (out : List Nat) : Prop where
  pw : out.Pairwise (fun a b => nlt far a b = true)
  lt : ∀ x ∈ out, x < n
  len : out.length = min k n
  rest : ∀ s, s < n → s ∉ out → ∀ t ∈ out, nlt far t s = true
theorem near_of {far : Nat → Int} {n k : Nat} {S K out : List Nat} (hS : S.Perm (List.range n)) (h : Best far k S K) (hp : out.Perm K) (hw : out.Pairwise (fun a b => nlt far a b = true)) : IsNear far n k out := by
  have hl := hS.length_eq
  rw [List.length_range] at hl
  have hm : ∀ s, s ∈ S ↔ s < n := fun s => by rw [hS.mem_iff, List.mem_range]
  refine ⟨hw, fun x hx => (hm x).1 (h.sub x (hp.mem_iff.1 hx)), by rw [hp.length_eq, h.len, hl], fun s hs hn t ht => h.best s ((hm s).2 hs) (fun hc => hn (hp.mem_iff.2 hc)) t (hp.mem_iff.1 ht)⟩
theorem sorted_eq {far : Nat → Int} : ∀ (a b : List Nat), a.Pairwise (fun a b => nlt far a b = true) → b.Pairwise (fun a b => nlt far a b = true) → (∀ x, x ∈ a ↔ x ∈ b) → a = b
  | [], [], _, _, _ => rfl
  | [], y :: b, _, _, h => absurd ((h y).2 List.mem_cons_self) List.not_mem_nil
  | x :: a, [], _, _, h => absurd ((h x).1 List.mem_cons_self) List.not_mem_nil
  | x :: a, y :: b, ha, hb, h => by
    obtain ⟨a1, a2⟩ := List.pairwise_cons.1 ha
    obtain ⟨b1, b2⟩ := List.pairwise_cons.1 hb
    have e : x = y := by
      by_cases e : x = y
      · exact e
      · exfalso
        have hx : x ∈ b := by
          rcases List.mem_cons.1 ((h x).1 List.mem_cons_self) with h1 | h1
          · exact absurd h1 e
          · exact h1
        have hy : y ∈ a := by
          rcases List.mem_cons.1 ((h y).2 List.mem_cons_self) with h1 | h1
          · exact absurd h1.symm e
          · exact h1
        have h1 := nlt_asym (a1 y hy)
        rw [b1 x hx] at h1
        cases h1
    subst e
    have hxa : x ∉ a := fun hx => by have := a1 x hx; rw [nlt_irr] at this; cases this
    have hxb : x ∉ b := fun hx => by have := b1 x hx; rw [nlt_irr] at this; cases this
    rw [sorted_eq a b a2 b2 (fun z => ?_)]
    constructor
    · intro hz
      rcases List.mem_cons.1 ((h z).1 (List.mem_cons_of_mem _ hz)) with h1 | h1
      · subst h1; exact absurd hz hxa
      · exact h1
    · intro hz
      rcases List.mem_cons.1 ((h z).2 (List.mem_cons_of_mem _ hz)) with h1 | h1
      · subst h1; exact absurd hz hxb
      · exact h1
theorem pw_nodup {far : Nat → Int} {a : List Nat} (h : a.Pairwise (fun a b => nlt far a b = true)) : a.Nodup :=
  h.imp (fun {x y} hxy e => by subst e; rw [nlt_irr] at hxy; cases hxy)
theorem near_unique {far : Nat → Int} {n k : Nat} {a b : List Nat} (ha : IsNear far n k a) (hb : IsNear far n k b) : a = b := by
  have key : ∀ {a b : List Nat}, IsNear far n k a → IsNear far n k b → ∀ x ∈ a, x ∈ b := by
    intro a b ha hb x hx
    by_cases h : x ∈ b
    · exact h
    · exfalso
      have hy : ∃ y, y ∈ b ∧ y ∉ a := by
        refine Classical.byContradiction fun hc => h ?_
        have hs : ∀ t ∈ b, t ∈ a := fun t ht => by
          by_cases e : t ∈ a
          · exact e
          · exact absurd ⟨t, ht, e⟩ hc
        exact all_in (pw_nodup ha.pw) (pw_nodup hb.pw) hs (by rw [ha.len, hb.len]) x hx
      obtain ⟨y, hy1, hy2⟩ := hy
      have h1 := ha.rest y (hb.lt y hy1) hy2 x hx
      have h2 := hb.rest x (ha.lt x hx) h y hy1
      have h3 := nlt_asym h1
      rw [h2] at h3
      cases h3
  exact sorted_eq a b ha.pw hb.pw (fun x => ⟨key ha hb x, key hb ha x⟩)
theorem near_congr {far far' : Nat → Int} {n k : Nat} {a : List Nat} (h : ∀ i, i < n → far i = far' i) (ha : IsNear far n k a) : IsNear far' n k a := by
  have e : ∀ x y, x < n → y < n → nlt far x y = nlt far' x y := fun x y hx hy => by unfold nlt; rw [h x hx, h y hy]
  refine ⟨ha.pw.imp_of_mem (fun hx hy hxy => by rw [← e _ _ (ha.lt _ hx) (ha.lt _ hy)]; exact hxy), ha.lt, ha.len, fun s hs hn t ht => by rw [← e _ _ (ha.lt t ht) hs]; exact ha.rest s hs hn t ht⟩
/-- What Closest tells. -/
structure IsClosest (d : Nat → Nat → Int) (n A B : Nat) : Prop where
  ab : A < B
  bn : B < n
  best : ∀ a b, a < b → b < n → d A B < d a b ∨ (d A B = d a b ∧ (A < a ∨ (A = a ∧ B ≤ b)))
theorem closest_unique {d : Nat → Nat → Int} {n A B A' B' : Nat} (h : IsClosest d n A B) (h' : IsClosest d n A' B') : A = A' ∧ B = B' := by
  have h1 := h.best A' B' h'.ab h'.bn
  have h2 := h'.best A B h.ab h.bn
  omega
theorem closest_congr {d d' : Nat → Nat → Int} {n A B : Nat} (hd : ∀ a b, a < n → b < n → d a b = d' a b) (h : IsClosest d n A B) : IsClosest d' n A B := by
  have ab := h.ab
  have bn := h.bn
  refine ⟨ab, bn, fun a b h1 h2 => ?_⟩
  rw [← hd A B (by omega) bn, ← hd a b (by omega) h2]
  exact h.best a b h1 h2
/-- The two nearest of a point of the closest pair. -/
theorem closest_two {d : Nat → Nat → Int} {n A B x y : Nat} (hs : ∀ a b, d a b = d b a) (h0 : ∀ a, d a a = 0) (hn : ∀ a b, 0 ≤ d a b) (h : IsClosest d n A B) (hN : IsNear (fun i => d i A) n 2 [x, y]) : max (d x A) (d y A) = d A B := by
  have ab := h.ab
  have bn := h.bn
  have hxy := (List.pairwise_cons.1 hN.pw).1 y (by simp)
  have hx := hN.lt x (by simp)
  have hy := hN.lt y (by simp)
  rw [nlt_iff] at hxy
  have pos : ∀ t, t < n → t ≠ A → d A B ≤ d t A := fun t ht hne => by
    by_cases e : t < A
    · have := h.best t A e (by omega); omega
    · have := h.best A t (by omega) ht
      rw [hs t A]; omega
  have hB := hs B A
  have n1 := hn x A
  have n2 := hn y A
  have n3 := hn A B
  have hAA := h0 A
  by_cases hxA : x = A
  · subst hxA
    rw [hAA]
    have hyA : y ≠ x := fun e => by subst e; omega
    have h1 := pos y hy hyA
    by_cases hyB : y = B
    · subst hyB; omega
    · have h2 := hN.rest B bn (by simp; omega) y (by simp)
      rw [nlt_iff] at h2

      omega
  · by_cases hyA : y = A
    · subst hyA
      rw [hAA]
      have h1 := pos x hx hxA
      omega
    · have h1 := hN.rest A (by omega) (by simp; omega) x (by simp)
      have h2 := hN.rest A (by omega) (by simp; omega) y (by simp)
      rw [nlt_iff] at h1 h2

      have h3 := pos x hx hxA
      omega
/-- A tree of places. -/
inductive KT where
  | nil : KT
  | node (m : Nat) (l r : KT) : KT
def KT.pl : KT → List Nat
  | .nil => []
  | .node m l r => m :: (l.pl ++ r.pl)
def KD (c : Nat → Nat → Int) : Nat → KT → Prop
  | _, .nil => True
  | d, .node m l r => (∀ y ∈ l.pl, c d y ≤ c d m) ∧ (∀ y ∈ r.pl, c d m ≤ c d y) ∧ KD c (d + 1) l ∧ KD c (d + 1) r

end Go.Proofs.YteeeikninigeoaaGreatDoor.Hp

/- cmp.Or of two numbers; near.order: the walks. -/
namespace Go.Proofs.YteeeikninigeoaaGreatDoor
set_option linter.unusedVariables false
open Go.RowKit Go.Sort

def or2 (a b : Int) : Int := if a ≠ 0 then a else b
set_option maxHeartbeats 1000000 in
theorem or2_any (b : Nat) (a1 a2 : Int) (w : World) (h0 : w.cell? ⟨b, 0, none⟩ = some (.int .i64 a1)) (h1 : w.cell? ⟨b, 1, none⟩ = some (.int .i64 a2)) :
    Calls Tryz.prog 70 #[.slice (some ⟨b, 0, none⟩) 2 2] w fun e w' => e = .returned (.int .i64 (or2 a1 a2)) ∧ w = w' := by
  have hor : (a1 ≠ 0 ∧ Kp (or2 a1 a2 = a1)) ∨ (a1 = 0 ∧ a2 ≠ 0 ∧ Kp (or2 a1 a2 = a2)) ∨ (a1 = 0 ∧ a2 = 0 ∧ Kp (or2 a1 a2 = 0)) := by
    unfold or2
    by_cases e1 : a1 = 0
    · by_cases e2 : a2 = 0
      · exact .inr (.inr ⟨e1, e2, ⟨by simp [e1, e2]⟩⟩)
      · exact .inr (.inl ⟨e1, e2, ⟨by simp [e1]⟩⟩)
    · exact .inl ⟨e1, ⟨by simp [e1]⟩⟩
  obtain ⟨r, hr⟩ : ∃ r, or2 a1 a2 = r := ⟨_, rfl⟩
  have HR := Kp.mk hr
  rw [hr] at hor ⊢
  have HO := Kp.mk hor
  clear hor hr
  go_enter Tryz.func70, Tryz.ntmps70
  go_wp2
  go_loop [8] (fun i => ∃ k : Nat, k ≤ 2 ∧ i = .int .i64 k ∧ Kp (0 < k → a1 = 0) ∧ Kp (1 < k → a2 = 0)) (fun i => 2 - (intOf i).toNat)
  case atStart => exact ⟨0, by omega, rfl, ⟨by omega⟩, ⟨by omega⟩⟩
  case round =>
    obtain ⟨k, hk, rfl, K1, K2⟩ := hrel
    rcases (show k = 0 ∨ k = 1 ∨ k = 2 by omega) with rfl | rfl | rfl
    · by_cases e : a1 = 0
      · have hd : (a1 != 0) = false := by simp [e]
        have HE := Kp.mk e
        clear e
        go_wp2
        go_round
        case rel => exact ⟨1, by omega, rfl, ⟨fun _ => HE.out⟩, ⟨by omega⟩⟩
        case measure => simp [intOf]
      · have hd : (a1 != 0) = true := by simpa using e
        have HF := Kp.mk (show a1 = r from by
          rcases HO.out with ⟨_, h⟩ | ⟨h, _⟩ | ⟨h, _⟩
          · exact h.out.symm
          · exact absurd h e
          · exact absurd h e)
        clear e
        go_wp2
        go_ret
        exact ⟨by rw [← HF.out]; rfl, rfl⟩
    · by_cases e : a2 = 0
      · have hd : (a2 != 0) = false := by simp [e]
        have HE := Kp.mk e
        clear e
        go_wp2
        go_round
        case rel => exact ⟨2, by omega, rfl, ⟨fun _ => K1.out (by omega)⟩, ⟨fun _ => HE.out⟩⟩
        case measure => simp [intOf]
      · have hd : (a2 != 0) = true := by simpa using e
        have HF := Kp.mk (show a2 = r from by
          have k1 := K1.out (by omega)
          rcases HO.out with ⟨h, _⟩ | ⟨_, _, h⟩ | ⟨_, h, _⟩
          · exact absurd k1 h
          · exact h.out.symm
          · exact absurd h e)
        clear e
        go_wp2
        go_ret
        exact ⟨by rw [← HF.out]; rfl, rfl⟩
    · have HF := Kp.mk (show r = 0 from by
        have k1 := K1.out (by omega)
        have k2 := K2.out (by omega)
        rcases HO.out with ⟨h, _⟩ | ⟨_, h, _⟩ | ⟨_, _, h⟩
        · exact absurd k1 h
        · exact absurd k2 h
        · exact h.out)
      go_wp2
      go_ret
      exact ⟨by rw [HF.out]; rfl, rfl⟩

/-- The comparison of two that were found. -/
def cmpN (f1 p1 f2 p2 : Int) : Int := or2 (cmpI f1 f2) (cmpI p1 p2)
theorem cmpN_neg (f1 p1 f2 p2 : Int) : cmpN f1 p1 f2 p2 < 0 ↔ (f1 < f2 ∨ (f1 = f2 ∧ p1 < p2)) := by
  unfold cmpN or2 cmpI
  repeat' split
  all_goals omega
theorem cmpN_pos (f1 p1 f2 p2 : Int) : cmpN f1 p1 f2 p2 > 0 ↔ (f2 < f1 ∨ (f2 = f1 ∧ p2 < p1)) := by
  unfold cmpN or2 cmpI
  repeat' split
  all_goals omega

set_option maxRecDepth 100000 in
set_option maxHeartbeats 2000000 in
theorem order_any (f1 p1 f2 p2 : Int) (w : World) : Calls Tryz.prog 42 #[.agg #[.int .i64 f1, .int .i64 p1], .agg #[.int .i64 f2, .int .i64 p2]] w fun e w' => e = .returned (.int .i64 (cmpN f1 p1 f2 p2)) ∧ ∃ q os, w' = grow (w.drewN q) os := by
  have C1 := Kp.mk (fun W => q_eq (compare_any f1 f2 W))
  have C2 := Kp.mk (fun W => q_eq (compare_any p1 p2 W))
  have HP := Kp.mk (show cmpN f1 p1 f2 p2 = or2 (cmpI f1 f2) (cmpI p1 p2) from rfl)
  rw [HP.out]
  clear HP
  generalize cmpI f1 f2 = r1 at *
  generalize cmpI p1 p2 = r2 at *
  go_enter Tryz.func42, Tryz.ntmps42
  go_upto_region 1 with (fail)
  obtain ⟨W1, hW1⟩ : ∃ W, w.alloc (.cells #[.int .i64 f1, .int .i64 p1] 99) = W := ⟨_, rfl⟩
  obtain ⟨W2, hW2⟩ : ∃ W, W1.alloc (.cells #[.int .i64 f2, .int .i64 p2] 99) = W := ⟨_, rfl⟩
  rw [hW1, hW2]
  have s1 : W1.heap.size = w.heap.size + 1 := by rw [← hW1, alloc_size]
  have x2 : Box W2 w.heap.size #[.int .i64 f1, .int .i64 p1] 99 := by rw [← hW2]; refine Box.alloc ?_ _; rw [← hW1]; exact Box.new _ _ _
  have y2 : Box W2 (w.heap.size + 1) #[.int .i64 f2, .int .i64 p2] 99 := by rw [← hW2, ← s1]; exact Box.new _ _ _
  have c0 : W2.cell? ⟨w.heap.size, 0, none⟩ = some (.int .i64 f1) := x2.cell 0 rfl
  have c1 : W2.cell? ⟨w.heap.size, 1, none⟩ = some (.int .i64 p1) := x2.cell 1 rfl
  have d0 : W2.cell? ⟨w.heap.size + 1, 0, none⟩ = some (.int .i64 f2) := y2.cell 0 rfl
  have d1 : W2.cell? ⟨w.heap.size + 1, 1, none⟩ = some (.int .i64 p2) := y2.cell 1 rfl
  have HG := Kp.mk (show W2 = grow w #[.cells #[.int .i64 f1, .int .i64 p1] 99, .cells #[.int .i64 f2, .int .i64 p2] 99] by rw [← hW2, ← hW1, alloc_eq_grow, alloc_eq_grow, grow_grow]; rfl)
  clear hW1 hW2 s1 x2 y2
  go_still_tail 10, (by kernel_rfl)
  still_call (C1.out _)
  repeat still_step
  still_call (C2.out _)
  try refine wpStill_nil ?_
  have bx := Box.new W2.drew #[.int .i64 r1, .int .i64 r2] 3
  have CO := Kp.mk (or2_any W2.heap.size r1 r2 (W2.drew.alloc (.cells #[.int .i64 r1, .int .i64 r2] 3)) (bx.cell 0 rfl) (bx.cell 1 rfl))
  clear bx
  go_wp2_with fail
  refine CO.out.mono ?_
  rintro e w' ⟨rfl, rfl⟩
  go_wp2
  go_ret
  exact ⟨rfl, 1, _, by rw [HG.out, alloc_eq_grow, grow_grow, drew_grow]; rfl⟩

end Go.Proofs.YteeeikninigeoaaGreatDoor

/- near.kept: the methods of the heap, the walks. -/
namespace Go.Proofs.YteeeikninigeoaaGreatDoor
set_option linter.unusedVariables false
open Go.RowKit Go.Sort
open Hp (nlt nlt_iff swp)

abbrev kfn (b0 : Nat) : Value := .iface 96 (.pointer (some ⟨b0, 0, none⟩))
theorem reach_less (W : World) (b0 : Nat) (sa : Option Addr) (n cap : Nat) (x y : Value) (h : W.cell? ⟨b0, 0, none⟩ = some (.slice sa n cap)) :
    (callMethod (kfn b0) "Less" #[x, y]).run Tryz.prog W = .ok (.enter 260 #[.slice sa n cap, x, y]) W := by
  have e : (callMethod (kfn b0) "Less" #[x, y]).run Tryz.prog W = (loadVar 92 ⟨b0, 0, none⟩ >>= fun r => callFunc 260 (#[r] ++ #[x, y])).run Tryz.prog W := by kernel_rfl
  rw [e]
  simp [go_sem, h]
theorem reach_swap (W : World) (b0 : Nat) (sa : Option Addr) (n cap : Nat) (x y : Value) (h : W.cell? ⟨b0, 0, none⟩ = some (.slice sa n cap)) :
    (callMethod (kfn b0) "Swap" #[x, y]).run Tryz.prog W = .ok (.enter 261 #[.slice sa n cap, x, y]) W := by
  have e : (callMethod (kfn b0) "Swap" #[x, y]).run Tryz.prog W = (loadVar 92 ⟨b0, 0, none⟩ >>= fun r => callFunc 261 (#[r] ++ #[x, y])).run Tryz.prog W := by kernel_rfl
  rw [e]
  simp [go_sem, h]
theorem reach_len (W : World) (b0 : Nat) (sa : Option Addr) (n cap : Nat) (h : W.cell? ⟨b0, 0, none⟩ = some (.slice sa n cap)) :
    (callMethod (kfn b0) "Len" #[]).run Tryz.prog W = .ok (.enter 75 #[.slice sa n cap]) W := by
  have e : (callMethod (kfn b0) "Len" #[]).run Tryz.prog W = (loadVar 92 ⟨b0, 0, none⟩ >>= fun r => callFunc 75 (#[r] ++ #[])).run Tryz.prog W := by kernel_rfl
  rw [e]
  simp [go_sem, h]
theorem reach_push (W : World) (b0 : Nat) (x : Value) : (callMethod (kfn b0) "Push" #[x]).run Tryz.prog W = .ok (.enter 263 #[.pointer (some ⟨b0, 0, none⟩), x]) W := by kernel_rfl
theorem reach_pop (W : World) (b0 : Nat) : (callMethod (kfn b0) "Pop" #[]).run Tryz.prog W = .ok (.enter 262 #[.pointer (some ⟨b0, 0, none⟩)]) W := by kernel_rfl

/-- The cells of what was found. -/
def fdL (far : Nat → Int) (p : Nat) : List Value := [.int .i64 (far p), .int .i64 (p : Int)]
theorem fdL_len (far : Nat → Int) (p : Nat) : (fdL far p).length = 2 := rfl
theorem fdL_one (far : Nat → Int) (L : List Nat) : ∀ u ∈ flat (fdL far) L, u.oneCell' = true := flat_one (fun r u hu => by
  simp only [fdL, List.mem_cons, List.not_mem_nil, or_false] at hu
  rcases hu with rfl | rfl <;> rfl) L
theorem fd_at {W : World} {B g n cap : Nat} {far : Nat → Int} {X : List Nat} (h : W.ownsRow B 99 2 (.slice (some ⟨g, 0, none⟩) n cap) n (flat (fdL far) X)) (hl : X.length = n) (i : Nat) (hi : i < n) :
    W.cell? ⟨g, i * 2, none⟩ = some (.int .i64 (far (X.getD i 0))) ∧ W.cell? ⟨g, i * 2 + 1, none⟩ = some (.int .i64 ((X.getD i 0 : Nat) : Int)) := by
  have h0 := own_at (fdL_len far) h hl i (by omega) 0 (by omega)
  have h1 := own_at (fdL_len far) h hl i (by omega) 1 (by omega)
  rw [getD_at X 0 (by omega)]
  exact ⟨h0, h1⟩

set_option maxRecDepth 100000 in
set_option maxHeartbeats 2000000 in
theorem less_any (B : Nat) (far : Nat → Int) (X : List Nat) (sa : Option Addr) (n cap i j : Nat) (W : World) (h : W.ownsRow B 99 2 (.slice sa n cap) n (flat (fdL far) X)) (hl : X.length = n) (hi : i < n) (hj : j < n) (hn : n ≤ 1000) :
    Calls Tryz.prog 260 #[.slice sa n cap, .int .i64 (i : Int), .int .i64 (j : Int)] W fun e w' => e = .returned (.bool (nlt far (X.getD j 0) (X.getD i 0))) ∧ ∃ q os, w' = grow (W.drewN q) os := by
  obtain ⟨g, rfl, _, _⟩ := own_some h (by omega)
  obtain ⟨c0, c1⟩ := fd_at h hl i hi
  obtain ⟨d0, d1⟩ := fd_at h hl j hj
  have HE := Kp.mk (show decide (cmpN (far (X.getD i 0)) ((X.getD i 0 : Nat) : Int) (far (X.getD j 0)) ((X.getD j 0 : Nat) : Int) > 0) = nlt far (X.getD j 0) (X.getD i 0) from by
    have e : (cmpN (far (X.getD i 0)) ((X.getD i 0 : Nat) : Int) (far (X.getD j 0)) ((X.getD j 0 : Nat) : Int) > 0) ↔ nlt far (X.getD j 0) (X.getD i 0) = true := by
      rw [cmpN_pos, nlt_iff]; omega
    cases hh : nlt far (X.getD j 0) (X.getD i 0) with
    | true => exact decide_eq_true (e.2 hh)
    | false => exact decide_eq_false (fun c => by rw [e.1 c] at hh; cases hh))
  have C := Kp.mk (order_any (far (X.getD i 0)) ((X.getD i 0 : Nat) : Int) (far (X.getD j 0)) ((X.getD j 0 : Nat) : Int))
  have hcap := (own_slc h).le
  rw [← HE.out]
  clear h HE
  generalize cmpN (far (X.getD i 0)) ((X.getD i 0 : Nat) : Int) (far (X.getD j 0)) ((X.getD j 0 : Nat) : Int) = r at *
  generalize far (X.getD i 0) = f1 at *
  generalize far (X.getD j 0) = f2 at *
  generalize ((X.getD i 0 : Nat) : Int) = p1 at *
  generalize ((X.getD j 0 : Nat) : Int) = p2 at *
  go_enter Tryz.func260, Tryz.ntmps260
  go_wp2
  go_still_tail 8, (by kernel_rfl)
  repeat still_step
  try refine wpStill_nil ?_
  go_wp2_with fail
  refine (C.out _).mono ?_
  rintro e w' ⟨rfl, q, os, rfl⟩
  go_wp2
  go_ret
  exact ⟨rfl, 1 + q, os, rfl⟩

theorem natfd_set (far : Nat → Int) : ∀ (X : List Nat) (i v : Nat), i < X.length → ((flat (fdL far) X).set (i * 2) (.int .i64 (far v))).set (i * 2 + 1) (.int .i64 (v : Int)) = flat (fdL far) (X.set i v)
  | [], i, v, h => absurd h (by simp)
  | x :: X, 0, v, _ => rfl
  | x :: X, i + 1, v, h => by
    have e : flat (fdL far) (x :: X) = .int .i64 (far x) :: .int .i64 (x : Int) :: flat (fdL far) X := rfl
    have e2 : flat (fdL far) ((x :: X).set (i + 1) v) = .int .i64 (far x) :: .int .i64 (x : Int) :: flat (fdL far) (X.set i v) := rfl
    rw [e, e2, ← natfd_set far X i v (by simpa using h), show (i + 1) * 2 = i * 2 + 1 + 1 by omega]
    rfl

set_option maxRecDepth 100000 in
set_option maxHeartbeats 4000000 in
theorem kswap_any (B : Nat) (far : Nat → Int) (X : List Nat) (sa : Option Addr) (n cap i j : Nat) (W : World) (h : W.ownsRow B 99 2 (.slice sa n cap) n (flat (fdL far) X)) (hl : X.length = n) (hi : i < n) (hj : j < n) (hn : n ≤ 1000) :
    Calls Tryz.prog 261 #[.slice sa n cap, .int .i64 (i : Int), .int .i64 (j : Int)] W fun e w' => e = .returned (.tuple #[]) ∧ Kp (w'.ownsRow B 99 2 (.slice sa n cap) n (flat (fdL far) (Hp.swp X i j))) ∧ Kp (W.grownBy w' (blk sa)) := by
  obtain ⟨g, rfl, _, _⟩ := own_some h (by omega)
  obtain ⟨c0, c1⟩ := fd_at h hl i hi
  obtain ⟨d0, d1⟩ := fd_at h hl j hj
  have hcap := (own_slc h).le
  have H := Kp.mk h
  have f0 := fun k => h.frozenAt k
  have HSW := Kp.mk (show ((((flat (fdL far) X).set (i * 2) (.int .i64 (far (X.getD j 0)))).set (i * 2 + 1) (.int .i64 ((X.getD j 0 : Nat) : Int))).set (j * 2) (.int .i64 (far (X.getD i 0)))).set (j * 2 + 1) (.int .i64 ((X.getD i 0 : Nat) : Int)) = flat (fdL far) (Hp.swp X i j) from by
    unfold Hp.swp
    rw [natfd_set far X i _ (by omega), natfd_set far _ j _ (by rw [List.length_set]; omega)])
  clear h
  generalize far (X.getD i 0) = f1 at *
  generalize far (X.getD j 0) = f2 at *
  generalize ((X.getD i 0 : Nat) : Int) = p1 at *
  generalize ((X.getD j 0 : Nat) : Int) = p2 at *
  have HR := Kp.mk (((((((H.out.stored (i * 2) (.int .i64 f2)).1).stored (i * 2 + 1) (.int .i64 p2)).1).stored (j * 2) (.int .i64 f1)).1.stored (j * 2 + 1) (.int .i64 p1)).1)
  rw [HSW.out] at HR
  go_enter Tryz.func261, Tryz.ntmps261
  go_wp2
  obtain ⟨a1, ha1⟩ := cell?_setCell_some (w := W) (p := ⟨g, i * 2, none⟩) (x := .int .i64 f2) (q := ⟨g, i * 2 + 1, none⟩) c1
  obtain ⟨a2, ha2⟩ := cell?_setCell_some (w := W) (p := ⟨g, i * 2, none⟩) (x := .int .i64 f2) (q := ⟨g, j * 2, none⟩) d0
  obtain ⟨a3, ha3⟩ := cell?_setCell_some (p := ⟨g, i * 2 + 1, none⟩) (x := .int .i64 p2) (q := ⟨g, j * 2, none⟩) ha2
  obtain ⟨b2, hb2⟩ := cell?_setCell_some (w := W) (p := ⟨g, i * 2, none⟩) (x := .int .i64 f2) (q := ⟨g, j * 2 + 1, none⟩) d1
  obtain ⟨b3, hb3⟩ := cell?_setCell_some (p := ⟨g, i * 2 + 1, none⟩) (x := .int .i64 p2) (q := ⟨g, j * 2 + 1, none⟩) hb2
  obtain ⟨b4, hb4⟩ := cell?_setCell_some (p := ⟨g, j * 2, none⟩) (x := .int .i64 f1) (q := ⟨g, j * 2 + 1, none⟩) hb3
  have g0 := f0 (i * 2)
  have g1 := f0 (i * 2 + 1)
  have g2 := f0 (j * 2)
  have g3 := f0 (j * 2 + 1)
  have HG := Kp.mk (grown_trans (grown_trans (grown_trans (grown_set W g (i * 2) (.int .i64 f2)) (grown_set _ g (i * 2 + 1) (.int .i64 p2))) (grown_set _ g (j * 2) (.int .i64 f1))) (grown_set _ g (j * 2 + 1) (.int .i64 p1)))
  clear f0
  have HRD := Kp.mk (own_below HR.out ((Below.refl _ _).drew))
  have HGD := Kp.mk (grown_drew HG.out)
  clear HR HG
  go_region
  go_wp2
  go_end0
  exact ⟨rfl, HRD, HGD⟩

theorem info_fd : (Tryz.prog.info? 99).map (fun i => (i.zero, i.size, i.bytes)) = some (some (.agg #[.int .i64 0, .int .i64 0]), 2, 16) := by kernel_rfl
theorem tFds : ElemTy Tryz.prog 92 99 2 16 (.agg #[.int .i64 0, .int .i64 0]) :=
  ⟨Tryz.underlying92, by obtain ⟨i0, hi, h0, h1, h2⟩ := info_parts info_fd; exact ⟨i0, hi, h0, h1, h2⟩, rfl, by decide⟩

set_option maxHeartbeats 1000000 in
theorem klen_any (sa : Option Addr) (n cap : Nat) (W : World) : Calls Tryz.prog 75 #[.slice sa n cap] W fun e w' => e = .returned (.int .i64 (n : Int)) ∧ W = w' := by
  go_enter Tryz.func75, Tryz.ntmps75
  go_wp2
  go_ret
  exact ⟨rfl, rfl⟩

/-- What is found so far: the box b0 holds a slice of an own row. -/
structure KI (b0 B : Nat) (far : Nat → Int) (X : List Nat) (W : World) : Prop where
  at_ : ∃ sa cap, Box W b0 #[.slice sa X.length cap] 92 ∧ W.ownsRow B 99 2 (.slice sa X.length cap) X.length (flat (fdL far) X)
  lt : b0 < B
  size : B ≤ W.heap.size
/-- All but the box and rows of what is found is kept. -/
structure KeepF (b0 B : Nat) (w W : World) : Prop where
  os : W.os = w.os
  tape : W.tape = w.tape
  output : W.output = w.output
  size : w.heap.size ≤ W.heap.size
  block : ∀ i, i < w.heap.size → i ≠ b0 → (i < B ∨ ∀ cs fr, w.heap[i]? ≠ some (.cells cs 99 fr)) → W.heap[i]? = w.heap[i]?
theorem KeepF.refl (b0 B : Nat) (w : World) : KeepF b0 B w w := ⟨rfl, rfl, rfl, Nat.le_refl _, fun _ _ _ _ => rfl⟩
theorem KeepF.trans {b0 B : Nat} {a b c : World} (h : KeepF b0 B a b) (k : KeepF b0 B b c) : KeepF b0 B a c :=
  ⟨k.os.trans h.os, k.tape.trans h.tape, k.output.trans h.output, Nat.le_trans h.size k.size, fun i hi hne hor => by
    have h1 := h.block i hi hne hor
    rw [k.block i (Nat.lt_of_lt_of_le hi h.size) hne (hor.imp_right (fun hf cs fr => by rw [h1]; exact hf cs fr)), h1]⟩
theorem KeepF.below {b0 B : Nat} {a b : World} (h : Below a.heap.size a b) : KeepF b0 B a b := ⟨h.os, h.tape, h.output, h.size, fun i hi _ _ => h.block i hi⟩
theorem KeepF.box0 {b0 B : Nat} {a b : World} (h : a.grownBy b (some b0)) : KeepF b0 B a b := ⟨h.os, h.tape, h.output, h.size, fun i hi hne _ => h.block i hi (fun e => hne (by cases e; rfl))⟩
theorem KeepF.row {b0 B n m c : Nat} {sa : Option Addr} {xs : List Value} {a b : World} (h : a.grownBy b (blk sa)) (ho : a.ownsRow B 99 2 (.slice sa m c) n xs) : KeepF b0 B a b :=
  ⟨h.os, h.tape, h.output, h.size, fun i hi hne hor => h.block i hi (fun e => by
    rcases ho.2 with ⟨hv, _⟩ | ⟨g, cap, cur, hv, hB, hg, _⟩
    · simp only [Value.slice.injEq] at hv
      rw [hv.1] at e; cases e
    · simp only [Value.slice.injEq] at hv
      rw [hv.1] at e
      have e' : i = g := by simpa [blk] using e
      subst e'
      rcases hor with hor | hor
      · omega
      · exact hor _ _ hg)⟩
theorem KeepF.box {b0 B b : Nat} {cs : Array Value} {t : TypeId} {w W : World} (h : KeepF b0 B w W) (hb : Box w b cs t) (hne : b ≠ b0) (ht : t ≠ 99) : Box W b cs t :=
  (h.block b hb.lt hne (.inr (fun cs' fr e => by
    have hb' : w.heap[b]? = some (.cells cs t (0, 0)) := hb
    rw [hb'] at e
    simp only [Option.some.injEq, Obj.cells.injEq] at e
    exact ht e.2.1))).trans hb
theorem KeepF.to {b0 B r : Nat} {w W : World} (h : KeepF b0 B w W) (h1 : r ≤ b0) (h2 : r ≤ B) (h3 : r ≤ w.heap.size) : Below r w W := ⟨h.os, h.tape, h.output, h.size, fun i hi => h.block i (by omega) (by omega) (.inl (by omega))⟩

abbrev hlt (far : Nat → Int) (a b : Nat) : Bool := nlt far b a
theorem ki_box {b0 B : Nat} {far : Nat → Int} {X : List Nat} {W w' : World} (h : KI b0 B far X W) (hb : Below W.heap.size W w') : KI b0 B far X w' := by
  obtain ⟨sa, cap, h1, h2⟩ := h.at_
  exact ⟨⟨sa, cap, h1.below hb, own_below h2 hb⟩, h.lt, Nat.le_trans h.size hb.size⟩
theorem grow_below (w : World) (q : Nat) (os : Array Obj) : Below w.heap.size w (Sort.grow (w.drewN q) os) := by
  refine ⟨rfl, rfl, rfl, by simp [Sort.grow], fun i hi => ?_⟩
  rw [heap_grow_old _ _ (by simpa using hi)]
  rfl

set_option maxRecDepth 100000 in
set_option maxHeartbeats 4000000 in
theorem kpush_any (b0 B : Nat) (far : Nat → Int) (X : List Nat) (x : Nat) (W : World) (h : KI b0 B far X W) (hn : X.length ≤ 1000) :
    Calls Tryz.prog 263 #[.pointer (some ⟨b0, 0, none⟩), .iface 99 (.agg #[.int .i64 (far x), .int .i64 (x : Int)])] W fun e w' => e = .returned (.tuple #[]) ∧ Kp (KI b0 B far (X ++ [x]) w') ∧ Kp (KeepF b0 B W w') := by
  obtain ⟨sa, cap, hb, ho⟩ := h.at_
  have HBS := Kp.mk (And.intro h.lt h.size)
  have c0 : W.cell? ⟨b0, 0, none⟩ = some (.slice sa X.length cap) := hb.cell 0 rfl
  have HB := Kp.mk hb
  have HO := Kp.mk ho
  have HF := Kp.mk (show flat (fdL far) X ++ [.int .i64 (far x), .int .i64 (x : Int)] = flat (fdL far) (X ++ [x]) from by rw [flat_append]; rfl)
  have HXL := Kp.mk (show (X ++ [x]).length = X.length + 1 by simp)
  clear h hb ho
  obtain ⟨n, hnl⟩ : ∃ n, X.length = n := ⟨_, rfl⟩
  rw [hnl] at c0 HB HO HXL hn
  obtain ⟨f, hf⟩ : ∃ f, far x = f := ⟨_, rfl⟩
  rw [hf] at HF ⊢
  clear hnl hf
  have hBz : B ≤ W.heap.size := HBS.out.2
  have hta : ∀ w, (Instr.typeAssert (.iface 99 (.agg #[.int .i64 f, .int .i64 (x : Int)])) 20 99 false).run Tryz.prog w = .ok (.agg #[.int .i64 f, .int .i64 (x : Int)]) w := fun _ => by kernel_rfl
  have hD : Below W.heap.size W (W.alloc (.cells #[.int .i64 f, .int .i64 (x : Int)] 99)).drew := (below_alloc (Nat.le_refl _) _).drew
  have c0' : (W.alloc (.cells #[.int .i64 f, .int .i64 (x : Int)] 99)).drew.cell? ⟨b0, 0, none⟩ = some (.slice sa n cap) := (HB.out.below hD).cell 0 rfl
  go_enter Tryz.func263, Tryz.ntmps263
  go_wp2
  refine wp_region_noPanic ?_
  refine wp_region_held_drew (S := (fun _ => True)) (by kernel_rfl) ?_ (fun hHeld => ?_)
  · exact True.intro
  refine wpAnyH_take (i := 0) (v := ?_) rfl (by kernel_rfl) (by kernel_rfl) (by kernel_rfl) (fun _ _ _ h => h) (Or.inl ⟨by rfl, ?_⟩) (by assumption) ?_
  rotate_left
  · (intro w hSw; (try dsimp only at hSw); go_simp; try with_reducible rfl)
  try simp only [Act.put]
  refine wpAnyH_take (i := 1) (v := ?_) rfl (by kernel_rfl) (by kernel_rfl) (by kernel_rfl) (fun _ _ _ h => h) (Or.inl ⟨by rfl, ?_⟩) (by assumption) ?_
  rotate_left
  · (intro w hSw; (try dsimp only at hSw); go_simp; try with_reducible rfl)
  try simp only [Act.put]
  refine wpAnyH_take (i := 2) (v := ?_) rfl (by kernel_rfl) (by kernel_rfl) (by kernel_rfl) (fun _ _ _ h => h) (Or.inl ⟨by rfl, ?_⟩) (by assumption) ?_
  rotate_left
  · (intro w hSw; (try dsimp only at hSw); go_simp; try with_reducible rfl)
  try simp only [Act.put]
  refine wpAnyH_take (i := 4) (v := ?_) rfl (by kernel_rfl) (by kernel_rfl) (by kernel_rfl) (fun _ _ _ h => h) (Or.inl ⟨by rfl, ?_⟩) (by assumption) ?_
  rotate_left
  · (intro w hSw; (try dsimp only at hSw); go_simp; try with_reducible rfl)
  try simp only [Act.put]
  refine wpAnyH_ready (rs := [3, 5]) (by kernel_rfl) (by simp) ?_
  refine AllReadyH.cons rfl (fun K hK => ?_) (AllReadyH.cons rfl (fun K hK => ?_) AllReadyH.nil)
  go_simp
  refine hK.out _ _ ?_ (fun hHeld => ?_)
  · exact True.intro
  clear hK K
  try simp only [Act.put]
  refine wpAnyH_ready (rs := [5]) (by kernel_rfl) (by simp) ?_
  refine AllReadyH.cons rfl (fun K hK => ?_) AllReadyH.nil
  go_simp
  refine hK.out _ _ ?_ (fun hHeld => ?_)
  · exact True.intro
  clear hK K
  try simp only [Act.put]
  refine wpAnyH_ready (rs := [6]) (by kernel_rfl) (by simp) ?_
  refine AllReadyH.cons rfl (fun K hK => ?_) AllReadyH.nil
  go_simp
  refine hK.out _ _ ?_ (fun hHeld => ?_)
  · exact True.intro
  clear hK K
  try simp only [Act.put]
  refine wpAnyH_ready (rs := [7]) (by kernel_rfl) (by simp) ?_
  refine AllReadyH.cons rfl (fun K hK => ?_) AllReadyH.nil
  refine step_push tFds (by rfl) _ _ (by rfl) B sa n cap _ (by rfl) ((HO.out.alloc _).drew) 1 W.heap.size _ (heap_alloc_new W _) (by rfl) (by rfl) (by simp [Value.oneCell']) (by omega) (by omega) (by omega) (by show B ≤ (W.alloc _).heap.size; rw [alloc_size]; omega) ?_
  intro sa' cap' w2 hown2 hg2 hno2
  have hb2 := box_grow (HB.out.below hD) hg2 (row_box (own_below HO.out hD) (HB.out.below hD) (by decide))
  have c2 : w2.cell? ⟨b0, 0, none⟩ = some (.slice sa n cap) := hb2.cell 0 rfl
  have f2 := frozen_of_row w2 b0 0 _ _ hb2
  refine hK.out _ _ ?_ (fun hHeld => ?_)
  · exact True.intro
  clear hK K
  try simp only [Act.put]
  refine wpAnyH_take (i := 8) (v := ?_) rfl (by kernel_rfl) (by kernel_rfl) (by kernel_rfl) (fun _ _ _ h => h) (Or.inl ⟨by rfl, ?_⟩) (by assumption) ?_
  rotate_left
  · (intro w hSw; (try dsimp only at hSw); go_simp; try with_reducible rfl)
  try simp only [Act.put]
  refine wpAnyH_ready (rs := [9]) (by kernel_rfl) (by simp) ?_
  refine AllReadyH.cons rfl (fun K hK => ?_) AllReadyH.nil
  go_simp
  refine hK.out _ _ ?_ (fun hHeld => ?_)
  · exact True.intro
  clear hK K
  try simp only [Act.put]
  refine wpAnyH_done (by kernel_rfl) ?_ _
  refine NoPanic.normal ?_
  rotate_left
  go_simp
  refine hK.out _ _ ?_ (fun hHeld => ?_)
  · exact True.intro
  clear hK K
  try simp only [Act.put]
  refine wpAnyH_ready (rs := [3, 6]) (by kernel_rfl) (by simp) ?_
  refine AllReadyH.cons rfl (fun K hK => ?_) (AllReadyH.cons rfl (fun K hK => ?_) AllReadyH.nil)
  go_simp
  refine hK.out _ _ ?_ (fun hHeld => ?_)
  · exact True.intro
  clear hK K
  try simp only [Act.put]
  refine wpAnyH_ready (rs := [6]) (by kernel_rfl) (by simp) ?_
  refine AllReadyH.cons rfl (fun K hK => ?_) AllReadyH.nil
  go_simp
  refine hK.out _ _ ?_ (fun hHeld => ?_)
  · exact True.intro
  clear hK K
  try simp only [Act.put]
  refine wpAnyH_ready (rs := [7]) (by kernel_rfl) (by simp) ?_
  refine AllReadyH.cons rfl (fun K hK => ?_) AllReadyH.nil
  refine step_push tFds (by rfl) _ _ (by rfl) B sa n cap _ (by rfl) ((HO.out.alloc _).drew) 1 W.heap.size _ (heap_alloc_new W _) (by rfl) (by rfl) (by simp [Value.oneCell']) (by omega) (by omega) (by omega) (by show B ≤ (W.alloc _).heap.size; rw [alloc_size]; omega) ?_
  intro sa' cap' w2 hown2 hg2 hno2
  have hb2 := box_grow (HB.out.below hD) hg2 (row_box (own_below HO.out hD) (HB.out.below hD) (by decide))
  have c2 : w2.cell? ⟨b0, 0, none⟩ = some (.slice sa n cap) := hb2.cell 0 rfl
  have f2 := frozen_of_row w2 b0 0 _ _ hb2
  refine hK.out _ _ ?_ (fun hHeld => ?_)
  · exact True.intro
  clear hK K
  try simp only [Act.put]
  refine wpAnyH_take (i := 8) (v := ?_) rfl (by kernel_rfl) (by kernel_rfl) (by kernel_rfl) (fun _ _ _ h => h) (Or.inl ⟨by rfl, ?_⟩) (by assumption) ?_
  rotate_left
  · (intro w hSw; (try dsimp only at hSw); go_simp; try with_reducible rfl)
  try simp only [Act.put]
  refine wpAnyH_ready (rs := [9]) (by kernel_rfl) (by simp) ?_
  refine AllReadyH.cons rfl (fun K hK => ?_) AllReadyH.nil
  go_simp
  refine hK.out _ _ ?_ (fun hHeld => ?_)
  · exact True.intro
  clear hK K
  try simp only [Act.put]
  refine wpAnyH_done (by kernel_rfl) ?_ _
  refine NoPanic.normal ?_
  rotate_left
  go_simp
  refine hK.out _ _ ?_ (fun hHeld => ?_)
  · exact True.intro
  clear hK K
  try simp only [Act.put]
  refine wpAnyH_ready (rs := [3]) (by kernel_rfl) (by simp) ?_
  refine AllReadyH.cons rfl (fun K hK => ?_) AllReadyH.nil
  go_simp
  refine hK.out _ _ ?_ (fun hHeld => ?_)
  · exact True.intro
  clear hK K
  try simp only [Act.put]
  refine wpAnyH_ready (rs := [7]) (by kernel_rfl) (by simp) ?_
  refine AllReadyH.cons rfl (fun K hK => ?_) AllReadyH.nil
  refine step_push tFds (by rfl) _ _ (by rfl) B sa n cap _ (by rfl) ((HO.out.alloc _).drew) 1 W.heap.size _ (heap_alloc_new W _) (by rfl) (by rfl) (by simp [Value.oneCell']) (by omega) (by omega) (by omega) (by show B ≤ (W.alloc _).heap.size; rw [alloc_size]; omega) ?_
  intro sa' cap' w2 hown2 hg2 hno2
  have hb2 := box_grow (HB.out.below hD) hg2 (row_box (own_below HO.out hD) (HB.out.below hD) (by decide))
  have c2 : w2.cell? ⟨b0, 0, none⟩ = some (.slice sa n cap) := hb2.cell 0 rfl
  have f2 := frozen_of_row w2 b0 0 _ _ hb2
  refine hK.out _ _ ?_ (fun hHeld => ?_)
  · exact True.intro
  clear hK K
  try simp only [Act.put]
  refine wpAnyH_take (i := 8) (v := ?_) rfl (by kernel_rfl) (by kernel_rfl) (by kernel_rfl) (fun _ _ _ h => h) (Or.inl ⟨by rfl, ?_⟩) (by assumption) ?_
  rotate_left
  · (intro w hSw; (try dsimp only at hSw); go_simp; try with_reducible rfl)
  try simp only [Act.put]
  refine wpAnyH_ready (rs := [9]) (by kernel_rfl) (by simp) ?_
  refine AllReadyH.cons rfl (fun K hK => ?_) AllReadyH.nil
  go_simp
  refine hK.out _ _ ?_ (fun hHeld => ?_)
  · exact True.intro
  clear hK K
  try simp only [Act.put]
  refine wpAnyH_done (by kernel_rfl) ?_ _
  refine NoPanic.normal ?_
  rotate_left
  all_goals
    have HO2 := Kp.mk hown2
    have HB2 := Kp.mk hb2
    have HK2 := Kp.mk ((KeepF.below (b0 := b0) (B := B) hD).trans (KeepF.row hg2 (own_below HO.out hD)))
    clear hD hown2 hg2 hno2 hb2
    have HKI := Kp.mk (show KI b0 B far (X ++ [x]) (w2.setCell ⟨b0, 0, none⟩ (.slice sa' (n + 1) cap')) from by
      have hne := row_box HO2.out HB2.out (by decide)
      refine ⟨⟨sa', cap', ?_, ?_⟩, HBS.out.1, ?_⟩
      · rw [HXL.out]; exact box_put (i := 0) HB2.out (.slice sa' (n + 1) cap')
      · rw [HXL.out, ← HF.out]; exact own_keep HO2.out (grown_set w2 b0 0 _) (fun k hk => by cases hk; exact hne)
      · rw [size_setCell]; exact Nat.le_trans hBz HK2.out.size)
    have HKF := Kp.mk (HK2.out.trans (KeepF.box0 (B := B) (grown_set w2 b0 0 (.slice sa' (n + 1) cap'))))
    clear HO2 HB2 HK2
    go_wp2
    go_end0
    exact ⟨rfl, HKI, HKF⟩

theorem own_frontK {w : World} {B e size n m cap : Nat} {sa : Option Addr} {xs : List Value} (h : w.ownsRow B e size (.slice sa n cap) n xs) (hm : m ≤ n) : w.ownsRow B e size (.slice sa m cap) m (xs.take (m * size)) := by
  have hle := Nat.mul_le_mul_right size hm
  have h1 := h.1
  refine ⟨by rw [List.length_take, h1]; omega, ?_⟩
  rcases h.2 with ⟨hv, hn⟩ | ⟨g, cap', cur, hv, hB, hg, h2, h3, h4, h5⟩
  · simp only [Value.slice.injEq] at hv
    exact .inl ⟨by rw [hv.1, hv.2.2, show m = 0 by omega], by omega⟩
  · simp only [Value.slice.injEq, true_and] at hv
    obtain ⟨rfl, rfl⟩ := hv
    refine .inr ⟨g, _, cur, rfl, hB, hg, by omega, h3, h4, ?_⟩
    rw [← h5, List.take_take, Nat.min_eq_left hle]

set_option maxRecDepth 100000 in
set_option maxHeartbeats 4000000 in
theorem kpop_any (b0 B : Nat) (far : Nat → Int) (X : List Nat) (x : Nat) (W : World) (h : KI b0 B far (X ++ [x]) W) (hn : X.length ≤ 1000) :
    Calls Tryz.prog 262 #[.pointer (some ⟨b0, 0, none⟩)] W fun e w' => e = .returned (.iface 99 (.agg #[.int .i64 (far x), .int .i64 (x : Int)])) ∧ Kp (KI b0 B far X w') ∧ Kp (KeepF b0 B W w') := by
  obtain ⟨sa, cap, hb, ho⟩ := h.at_
  have hxl : (X ++ [x]).length = X.length + 1 := by simp
  rw [hxl] at hb ho
  have HBS := Kp.mk (And.intro h.lt h.size)
  obtain ⟨g, rfl, _, _⟩ := own_some ho (by omega)
  have c0 : W.cell? ⟨b0, 0, none⟩ = some (.slice (some ⟨g, 0, none⟩) (X.length + 1) cap) := hb.cell 0 rfl
  obtain ⟨d0, d1⟩ := fd_at ho hxl X.length (by omega)
  have hxx : (X ++ [x]).getD X.length 0 = x := by rw [getD_at _ _ (by rw [hxl]; omega)]; simp
  rw [hxx] at d0 d1
  have HF := Kp.mk (show (flat (fdL far) (X ++ [x])).take (X.length * 2) = flat (fdL far) X from by rw [flat_take (fdL_len far)]; simp)
  have HOF := Kp.mk (own_frontK ho (m := X.length) (by omega))
  rw [HF.out] at HOF
  have hcap := (own_slc ho).le
  have hcm := (own_slc ho).capm
  unfold maxLen at hcm
  have hal := below_alloc (Nat.le_refl W.heap.size) (.cells #[.int .i64 (far x), .int .i64 (x : Int)] 99)
  have hb2 := hb.below hal
  have HB2 := Kp.mk hb2
  have HO2 := Kp.mk (own_below HOF.out hal)
  have HAL := Kp.mk hal
  have hbne := Kp.mk (Nat.ne_of_lt hb.lt)
  have HX := Kp.mk (Box.new W #[.int .i64 (far x), .int .i64 (x : Int)] 99)
  clear h hb ho hxl hxx HF HOF
  obtain ⟨n, hnl⟩ : ∃ n, X.length = n := ⟨_, rfl⟩
  have HNL := Kp.mk hnl
  rw [hnl] at c0 d0 d1 hn hcap hb2 HB2 HO2
  obtain ⟨f, hf⟩ : ∃ f, far x = f := ⟨_, rfl⟩
  rw [hf] at d0 HAL HX hal hb2 HB2 HO2 ⊢
  clear hf hnl
  have e1 : IntKind.i64.wrap ((n : Int) + 1 - 1) = (n : Int) := by rw [show (n : Int) + 1 - 1 = n by omega]; exact IntWalk.i64_in _ (by omega)
  have hnc : n ≤ cap := by omega
  have c2 : (W.alloc (.cells #[.int .i64 f, .int .i64 (x : Int)] 99)).cell? ⟨b0, 0, none⟩ = some (.slice (some ⟨g, 0, none⟩) (n + 1) cap) := hb2.cell 0 rfl
  have f2 := frozen_of_row _ b0 0 _ _ hb2
  clear hal
  have x0 : (W.alloc (.cells #[.int .i64 f, .int .i64 (x : Int)] 99)).cell? ⟨W.heap.size, 0, none⟩ = some (.int .i64 f) := HX.out.cell 0 rfl
  have x1 : (W.alloc (.cells #[.int .i64 f, .int .i64 (x : Int)] 99)).cell? ⟨W.heap.size, 1, none⟩ = some (.int .i64 (x : Int)) := HX.out.cell 1 rfl
  have hne := hbne.out
  have hne' : ¬ W.heap.size = b0 := fun e => hne e.symm
  obtain ⟨W2, hW2⟩ : ∃ W2, W.alloc (.cells #[.int .i64 f, .int .i64 (x : Int)] 99) = W2 := ⟨_, rfl⟩
  rw [hW2] at c2 f2 x0 x1 HB2 HO2 HAL
  have HKI := Kp.mk (show KI b0 B far X (W2.setCell ⟨b0, 0, none⟩ (.slice (some ⟨g, 0, none⟩) n cap)) from by
    have hne := row_box HO2.out HB2.out (by decide)
    refine ⟨⟨some ⟨g, 0, none⟩, cap, ?_, ?_⟩, HBS.out.1, ?_⟩
    · rw [HNL.out]; exact box_put (i := 0) HB2.out (.slice (some ⟨g, 0, none⟩) n cap)
    · rw [HNL.out]; exact own_keep HO2.out (grown_set W2 b0 0 _) (fun k hk => by cases hk; exact hne)
    · rw [size_setCell]; exact Nat.le_trans HBS.out.2 HAL.out.size)
  have HKF := Kp.mk ((KeepF.below (b0 := b0) (B := B) HAL.out).trans (KeepF.box0 (B := B) (grown_set W2 b0 0 (.slice (some ⟨g, 0, none⟩) n cap))))
  clear hb2 HX HB2 HO2 HAL
  go_enter Tryz.func262, Tryz.ntmps262
  go_wp2
  go_ret
  exact ⟨rfl, HKI, HKF⟩

def fdV (far : Nat → Int) (x : Nat) : Value := .iface 99 (.agg #[.int .i64 (far x), .int .i64 (x : Int)])
theorem kends (b0 B : Nat) (far : Nat → Int) (w0 : World) : HpEnds (kfn b0) (fdV far) (fun _ => True) (fun X W => KI b0 B far X W ∧ KeepF b0 B w0 W ∧ X.length ≤ 1000) where
  push X W x h _ hn := by
    obtain ⟨h1, h2, h3⟩ := h
    refine ⟨_, _, reach_push W b0 _, ?_⟩
    refine (kpush_any b0 B far X x W h1 h3).mono ?_
    rintro e w' ⟨rfl, k1, k2⟩
    exact ⟨rfl, ⟨k1.out, h2.trans k2.out, by simp; omega⟩⟩
  pop X W x h := by
    obtain ⟨h1, h2, h3⟩ := h
    simp at h3
    refine ⟨_, _, reach_pop W b0, ?_⟩
    refine (kpop_any b0 B far X x W h1 (by omega)).mono ?_
    rintro e w' ⟨rfl, k1, k2⟩
    exact ⟨rfl, ⟨k1.out, h2.trans k2.out, by omega⟩⟩

theorem kops (b0 B : Nat) (far : Nat → Int) (w0 : World) : HpOps (kfn b0) (hlt far) (fun X W => KI b0 B far X W ∧ KeepF b0 B w0 W ∧ X.length ≤ 1000) where
  less X W i j h hi hj := by
    obtain ⟨h1, h2, h3⟩ := h
    obtain ⟨sa, cap, hb, ho⟩ := h1.at_
    refine ⟨_, _, reach_less W b0 sa X.length cap _ _ (hb.cell 0 rfl), ?_⟩
    refine (less_any B far X sa X.length cap i j W ho rfl hi hj h3).mono ?_
    rintro e w' ⟨rfl, q, os, rfl⟩
    have hbl := grow_below W q os
    exact ⟨rfl, ⟨ki_box h1 hbl, h2.trans (KeepF.below hbl), h3⟩⟩
  swap X W i j h hi hj := by
    obtain ⟨h1, h2, h3⟩ := h
    obtain ⟨sa, cap, hb, ho⟩ := h1.at_
    refine ⟨_, _, reach_swap W b0 sa X.length cap _ _ (hb.cell 0 rfl), ?_⟩
    refine (kswap_any B far X sa X.length cap i j W ho rfl hi hj h3).mono ?_
    rintro e w' ⟨rfl, ho', hg⟩
    have hl := Hp.swp_length X i j
    refine ⟨rfl, ⟨⟨⟨sa, cap, ?_, ?_⟩, h1.lt, Nat.le_trans h1.size hg.out.size⟩, h2.trans (KeepF.row hg.out ho), by rw [hl]; exact h3⟩⟩
    · rw [hl]; exact box_grow hb hg.out (row_box ho hb (by decide))
    · rw [hl]; exact ho'.out
  len X W h := by
    obtain ⟨h1, h2, h3⟩ := h
    obtain ⟨sa, cap, hb, ho⟩ := h1.at_
    refine ⟨_, _, reach_len W b0 sa X.length cap (hb.cell 0 rfl), ?_⟩
    refine (klen_any sa X.length cap W).mono ?_
    rintro e w' ⟨rfl, rfl⟩
    exact ⟨rfl, ⟨h1, h2, h3⟩⟩

end Go.Proofs.YteeeikninigeoaaGreatDoor


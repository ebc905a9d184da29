import Derived.Test.YtedchegejalolaaGreatDoorMb0
import Derived.Test.YtedchegejalolaaGreatDoorMb3
import Derived.Test.YtedchegejalolaaGreatDoorMb4
import Derived.Test.YtedchegejalolaaGreatDoorMb1
import Derived.StillTailTactics
import Derived.Sort.OwnSortedInts
/- cmp.Compare of integers. -/
namespace Go.Proofs.YtedchegejalolaaGreatDoor
set_option linter.unusedVariables false
open Go.RowKit

def cmpI (x y : Int) : Int := if x < y then -1 else if y < x then 1 else 0
def or3 (a b c : Int) : Int := if a ≠ 0 then a else if b ≠ 0 then b else c

set_option maxHeartbeats 400000 in
theorem cmpNaN_any (x : Int) (w : World) : Calls Tryz.prog 113 #[.int .i64 x] w fun e w' => e = .returned (.bool false) ∧ w = w' := by
  go_enter Tryz.func113, Tryz.ntmps113
  go_wp2
  go_ret
  exact ⟨by simp, rfl⟩

set_option maxHeartbeats 400000 in
theorem compare_any (x y : Int) (w : World) : Calls Tryz.prog 83 #[.int .i64 x, .int .i64 y] w fun e w' => e = .returned (.int .i64 (cmpI x y)) ∧ w = w' := by
  have C := Kp.mk (cmpNaN_any)
  have hor : (x < y ∧ Kp (cmpI x y = -1)) ∨ ((¬ x < y ∧ y < x) ∧ Kp (cmpI x y = 1)) ∨ ((¬ x < y ∧ ¬ y < x) ∧ Kp (cmpI x y = 0)) := by
    unfold cmpI
    by_cases h1 : x < y
    · exact .inl ⟨h1, ⟨if_pos h1⟩⟩
    · by_cases h2 : y < x
      · exact .inr (.inl ⟨⟨h1, h2⟩, ⟨by rw [if_neg h1, if_pos h2]⟩⟩)
      · exact .inr (.inr ⟨⟨h1, h2⟩, ⟨by rw [if_neg h1, if_neg h2]⟩⟩)
  rcases hor with ⟨h1, H⟩ | ⟨⟨h1, h2⟩, H⟩ | ⟨⟨h1, h2⟩, H⟩
  all_goals
    rw [H.out]
    clear H
    go_enter Tryz.func83, Tryz.ntmps83
    go_wp2_with (go_at_call 113; refine (C.out _ _).mono ?_; rintro e w' ⟨rfl, rfl⟩)
    go_ret
    exact ⟨rfl, rfl⟩

end Go.Proofs.YtedchegejalolaaGreatDoor

/- Plain facts on points above others: the sky, and layers. -/
namespace Go.Proofs.YtedchegejalolaaGreatDoor
set_option linter.unusedVariables false
open Go.RowKit

/-- To the right and above, not the same place. -/
def Above (a b : Pt) : Prop := b.x ≤ a.x ∧ b.y ≤ a.y ∧ (a.x ≠ b.x ∨ a.y ≠ b.y)
instance (a b : Pt) : Decidable (Above a b) := by unfold Above; exact inferInstance
def lexLe (p q : Pt) : Prop := p.x < q.x ∨ (p.x = q.x ∧ p.y ≤ q.y)
/-- What is known while the sky is walked from the right on. -/
structure SkyInv (g : Nat → Pt) (done out : List Nat) (top : Pt) : Prop where
  sub : out.Sublist done
  ne : done ≠ [] → out ≠ []
  left : ∀ o ∈ out, top.x ≤ (g o).x
  topin : out ≠ [] → ∃ o ∈ out, g o = top
  high : ∀ d ∈ done, (g d).y ≤ top.y
  cov : ∀ d ∈ done, d ∈ out ∨ ∃ o ∈ out, Above (g o) (g d)
  free : ∀ o ∈ out, ∀ d ∈ done, ¬ Above (g d) (g o)
  chain : out.Pairwise fun i j => (g j).x ≤ (g i).x ∧ (g i).y ≤ (g j).y
theorem SkyInv.start (g : Nat → Pt) (top : Pt) : SkyInv g [] [] top := by
  refine ⟨List.Sublist.refl _, fun h => absurd rfl h, by simp, fun h => absurd rfl h, by simp, by simp, by simp, List.Pairwise.nil⟩
theorem SkyInv.take {g : Nat → Pt} {done out : List Nat} {top : Pt} (h : SkyInv g done out top) (i : Nat) (hlex : ∀ d ∈ done, lexLe (g i) (g d))
    (hc : out = [] ∨ top.y < (g i).y ∨ ((g i).x = top.x ∧ (g i).y = top.y)) : SkyInv g (done ++ [i]) (out ++ [i]) (g i) := by
  have hdn : out = [] → done = [] := fun e => by
    apply Classical.byContradiction
    intro hd
    exact h.ne hd e
  -- nothing that was met stands above it, and it stands above nothing that is out
  have hy : ∀ d ∈ done, (g d).y ≤ (g i).y := by
    intro d hd
    have h1 := h.high d hd
    rcases hc with e | e | e
    · rw [hdn e] at hd; simp at hd
    · omega
    · omega
  have hup : ∀ d ∈ done, ¬ Above (g d) (g i) := by
    intro d hd ha
    have h1 := h.high d hd
    have h2 := hlex d hd
    unfold Above at ha
    rcases hc with e | e | e
    · rw [hdn e] at hd; simp at hd
    · omega
    · by_cases ho : out = []
      · rw [hdn ho] at hd; simp at hd
      · obtain ⟨o, ho1, ho2⟩ := h.topin ho
        have h3 := h.free o ho1 d hd
        apply h3
        unfold Above
        rw [ho2]
        omega
  have hdown : ∀ o ∈ out, ¬ Above (g i) (g o) := by
    intro o ho ha
    have h1 := hlex o (h.sub.subset ho)
    have h2 := hy o (h.sub.subset ho)
    unfold Above at ha
    unfold lexLe at h1
    omega
  refine ⟨h.sub.append (List.Sublist.refl _), by simp, ?_, fun _ => ⟨i, by simp, rfl⟩, ?_, ?_, ?_, ?_⟩
  · intro o ho
    rcases List.mem_append.1 ho with ho | ho
    · have := hlex o (h.sub.subset ho)
      unfold lexLe at this; omega
    · rw [List.mem_singleton.1 ho]; exact Int.le_refl _
  · intro d hd
    rcases List.mem_append.1 hd with hd | hd
    · exact hy d hd
    · rw [List.mem_singleton.1 hd]; exact Int.le_refl _
  · intro d hd
    rcases List.mem_append.1 hd with hd | hd
    · rcases h.cov d hd with h1 | ⟨o, ho, ha⟩
      · exact .inl (List.mem_append.2 (.inl h1))
      · exact .inr ⟨o, List.mem_append.2 (.inl ho), ha⟩
    · exact .inl (List.mem_append.2 (.inr hd))
  · intro o ho d hd
    rcases List.mem_append.1 ho with ho | ho
    · rcases List.mem_append.1 hd with hd | hd
      · exact h.free o ho d hd
      · rw [List.mem_singleton.1 hd]; exact hdown o ho
    · rw [List.mem_singleton.1 ho]
      rcases List.mem_append.1 hd with hd | hd
      · exact hup d hd
      · rw [List.mem_singleton.1 hd]; unfold Above; omega
  · rw [List.pairwise_append]
    refine ⟨h.chain, by simp, fun a ha b hb => ?_⟩
    rw [List.mem_singleton.1 hb]
    have h1 := hlex a (h.sub.subset ha)
    have h2 := hy a (h.sub.subset ha)
    unfold lexLe at h1
    omega
theorem SkyInv.skip {g : Nat → Pt} {done out : List Nat} {top : Pt} (h : SkyInv g done out top) (i : Nat) (hlex : ∀ d ∈ done, lexLe (g i) (g d))
    (hc : out ≠ []) (hc2 : ¬ top.y < (g i).y) (hc3 : ¬ ((g i).x = top.x ∧ (g i).y = top.y)) : SkyInv g (done ++ [i]) out top := by
  obtain ⟨t, ht, htt⟩ := h.topin hc
  have htd := hlex t (h.sub.subset ht)
  rw [htt] at htd
  have hab : Above top (g i) := by unfold Above; unfold lexLe at htd; omega
  have hnot : ∀ o ∈ out, ¬ Above (g i) (g o) := by
    intro o ho ha
    have h1 := hlex o (h.sub.subset ho)
    unfold Above at ha
    unfold lexLe at h1
    omega
  refine ⟨h.sub.trans (List.sublist_append_left _ _), fun _ => hc, h.left, h.topin, ?_, ?_, ?_, h.chain⟩
  · intro d hd
    rcases List.mem_append.1 hd with hd | hd
    · exact h.high d hd
    · rw [List.mem_singleton.1 hd]; omega
  · intro d hd
    rcases List.mem_append.1 hd with hd | hd
    · exact h.cov d hd
    · rw [List.mem_singleton.1 hd]; exact .inr ⟨t, ht, by rw [htt]; exact hab⟩
  · intro o ho d hd
    rcases List.mem_append.1 hd with hd | hd
    · exact h.free o ho d hd
    · rw [List.mem_singleton.1 hd]; exact hnot o ho

/-- What is known while the layers are walked from the right on. -/
structure LayInv (g : Nat → Pt) (done : List Nat) (lay : Nat → Nat) (tops : List Int) : Prop where
  fall : tops.Pairwise (fun a b => b ≤ a)
  lt : ∀ d ∈ done, lay d < tops.length
  le : ∀ d ∈ done, (g d).y ≤ tops.getD (lay d) 0
  ex : ∀ n, n < tops.length → ∃ d ∈ done, lay d = n ∧ (g d).y = tops.getD n 0
  up : ∀ a ∈ done, ∀ b ∈ done, Above (g a) (g b) → lay a < lay b
  way : ∀ b ∈ done, 0 < lay b → ∃ a ∈ done, lay a + 1 = lay b ∧ Above (g a) (g b)
  few : tops.length ≤ done.length
theorem LayInv.start (g : Nat → Pt) (lay : Nat → Nat) : LayInv g [] lay [] := by
  refine ⟨List.Pairwise.nil, by simp, by simp, by simp, by simp, by simp, Nat.le_refl _⟩
theorem fall_le {l : List Int} (h : l.Pairwise (fun a b => b ≤ a)) {i j : Nat} (hij : i ≤ j) (hj : j < l.length) : l.getD j 0 ≤ l.getD i 0 := by
  rcases Nat.eq_or_lt_of_le hij with e | e
  · rw [e]; exact Int.le_refl _
  · have h1 := List.pairwise_iff_getElem.1 h i j (by omega) hj e
    simpa [List.getD, hj, show i < l.length by omega] using h1
theorem LayInv.new {g : Nat → Pt} {done : List Nat} {lay lay' : Nat → Nat} {tops tops' : List Int} (h : LayInv g done lay tops) (i n : Nat) (hlex : ∀ d ∈ done, lexLe (g i) (g d)) (hne : ∀ d ∈ done, ¬ ((g d).x = (g i).x ∧ (g d).y = (g i).y))
    (hn : n ≤ tops.length) (n1 : ∀ m, m < n → (g i).y ≤ tops.getD m 0) (n2 : n < tops.length → tops.getD n 0 < (g i).y)
    (h1 : ∀ d ∈ done, lay' d = lay d) (h2 : lay' i = n)
    (hl : tops'.length = if n = tops.length then tops.length + 1 else tops.length) (t1 : ∀ m, m ≠ n → m < tops.length → tops'.getD m 0 = tops.getD m 0) (t2 : tops'.getD n 0 = (g i).y) : LayInv g (done ++ [i]) lay' tops' := by
  have hle : tops.length ≤ tops'.length := by rw [hl]; split <;> omega
  have hnl : n < tops'.length := by rw [hl]; split <;> omega
  have hbig : ∀ m, m < tops'.length → m ≠ n → m < tops.length := by
    intro m hm hmn
    rw [hl] at hm
    split at hm <;> omega
  have hle' : ∀ d ∈ done, tops.getD (lay d) 0 ≤ tops'.getD (lay d) 0 := by
    intro d hd
    by_cases e : lay d = n
    · rw [e, t2]
      have := n2 (by rw [← e]; exact h.lt d hd)
      omega
    · rw [t1 _ e (h.lt d hd)]; exact Int.le_refl _
  refine ⟨?_, ?_, ?_, ?_, ?_, ?_, ?_⟩
  · rw [List.pairwise_iff_getElem]
    intro a b ha hb hab
    have ga : tops'[a] = tops'.getD a 0 := by simp [List.getD, ha]
    have gb : tops'[b] = tops'.getD b 0 := by simp [List.getD, hb]
    rw [ga, gb]
    by_cases ea : a = n
    · have hb' := hbig b hb (by omega)
      rw [ea, t2, t1 b (by omega) hb']
      have := n2 (by omega)
      have := fall_le h.fall (show n ≤ b by omega) hb'
      omega
    · have ha' := hbig a ha ea
      by_cases eb : b = n
      · rw [eb, t2, t1 a ea ha']
        exact n1 a (by omega)
      · have hb' := hbig b hb eb
        rw [t1 a ea ha', t1 b eb hb']
        exact fall_le h.fall (by omega) hb'
  · intro d hd
    rcases List.mem_append.1 hd with hd | hd
    · rw [h1 d hd]; have := h.lt d hd; omega
    · rw [List.mem_singleton.1 hd, h2]; exact hnl
  · intro d hd
    rcases List.mem_append.1 hd with hd | hd
    · rw [h1 d hd]; exact Int.le_trans (h.le d hd) (hle' d hd)
    · rw [List.mem_singleton.1 hd, h2, t2]; exact Int.le_refl _
  · intro m hm
    by_cases e : m = n
    · exact ⟨i, by simp, by rw [h2, e], by rw [e, t2]⟩
    · have hm' := hbig m hm e
      obtain ⟨d, hd, e1, e2⟩ := h.ex m hm'
      exact ⟨d, List.mem_append.2 (.inl hd), by rw [h1 d hd, e1], by rw [t1 m e hm']; exact e2⟩
  · intro a ha b hb hab
    rcases List.mem_append.1 ha with ha | ha
    · rcases List.mem_append.1 hb with hb | hb
      · rw [h1 a ha, h1 b hb]; exact h.up a ha b hb hab
      · rw [List.mem_singleton.1 hb] at hab ⊢
        rw [h1 a ha, h2]
        apply Classical.byContradiction
        intro hc
        have h3 := h.lt a ha
        have h4 := h.le a ha
        have h5 := fall_le h.fall (show n ≤ lay a by omega) h3
        have h6 := n2 (by omega)
        unfold Above at hab
        omega
    · rw [List.mem_singleton.1 ha] at hab
      rcases List.mem_append.1 hb with hb | hb
      · have h3 := hlex b hb
        have h4 := hne b hb
        unfold Above at hab
        unfold lexLe at h3
        omega
      · rw [List.mem_singleton.1 hb] at hab
        unfold Above at hab
        omega
  · intro b hb hp
    rcases List.mem_append.1 hb with hb | hb
    · rw [h1 b hb] at hp ⊢
      obtain ⟨a, ha, e1, e2⟩ := h.way b hb hp
      exact ⟨a, List.mem_append.2 (.inl ha), by rw [h1 a ha]; exact e1, e2⟩
    · rw [List.mem_singleton.1 hb] at hp ⊢
      rw [h2] at hp ⊢
      obtain ⟨a, ha, e1, e2⟩ := h.ex (n - 1) (by omega)
      have h3 := n1 (n - 1) (by omega)
      have h4 := hlex a ha
      have h5 := hne a ha
      refine ⟨a, List.mem_append.2 (.inl ha), by rw [h1 a ha, e1]; omega, ?_⟩
      unfold Above
      unfold lexLe at h4
      omega
  · rw [hl, List.length_append]
    have := h.few
    split <;> simp <;> omega

end Go.Proofs.YtedchegejalolaaGreatDoor

/- cmp.Compare, cmp.Or; slices.SortFunc on the places of a list of points, by x, y and place. -/
namespace Go.Proofs.YtedchegejalolaaGreatDoor
set_option linter.unusedVariables false
open Go.RowKit Go.Sort

set_option maxHeartbeats 1000000 in
theorem or3_any (b : Nat) (a1 a2 a3 : Int) (w : World) (h0 : w.cell? ⟨b, 0, none⟩ = some (.int .i64 a1)) (h1 : w.cell? ⟨b, 1, none⟩ = some (.int .i64 a2)) (h2 : w.cell? ⟨b, 2, none⟩ = some (.int .i64 a3)) :
    Calls Tryz.prog 82 #[.slice (some ⟨b, 0, none⟩) 3 3] w fun e w' => e = .returned (.int .i64 (or3 a1 a2 a3)) ∧ w = w' := by
  have hor : (a1 ≠ 0 ∧ Kp (or3 a1 a2 a3 = a1)) ∨ (a1 = 0 ∧ a2 ≠ 0 ∧ Kp (or3 a1 a2 a3 = a2)) ∨ (a1 = 0 ∧ a2 = 0 ∧ a3 ≠ 0 ∧ Kp (or3 a1 a2 a3 = a3)) ∨ (a1 = 0 ∧ a2 = 0 ∧ a3 = 0 ∧ Kp (or3 a1 a2 a3 = 0)) := by
    unfold or3
    by_cases e1 : a1 = 0
    · by_cases e2 : a2 = 0
      · by_cases e3 : a3 = 0
        · exact .inr (.inr (.inr ⟨e1, e2, e3, ⟨by simp [e1, e2, e3]⟩⟩))
        · exact .inr (.inr (.inl ⟨e1, e2, e3, ⟨by simp [e1, e2]⟩⟩))
      · exact .inr (.inl ⟨e1, e2, ⟨by simp [e1, e2]⟩⟩)
    · exact .inl ⟨e1, ⟨by simp [e1]⟩⟩
  obtain ⟨r, hr⟩ : ∃ r, or3 a1 a2 a3 = r := ⟨_, rfl⟩
  have HR := Kp.mk hr
  rw [hr] at hor ⊢
  have HO := Kp.mk hor
  clear hor hr
  go_enter Tryz.func82, Tryz.ntmps82
  go_wp2
  go_loop [8] (fun i => ∃ k : Nat, k ≤ 3 ∧ i = .int .i64 k ∧ Kp (0 < k → a1 = 0) ∧ Kp (1 < k → a2 = 0) ∧ Kp (2 < k → a3 = 0)) (fun i => 3 - (intOf i).toNat)
  case atStart => exact ⟨0, by omega, rfl, ⟨by omega⟩, ⟨by omega⟩, ⟨by omega⟩⟩
  case round =>
    obtain ⟨k, hk, rfl, K1, K2, K3⟩ := hrel
    rcases (show k = 0 ∨ k = 1 ∨ k = 2 ∨ k = 3 by omega) with rfl | rfl | rfl | rfl
    · by_cases e : a1 = 0
      · have hd : (a1 != 0) = false := by simp [e]
        have HE := Kp.mk e
        clear e
        go_wp2
        go_round
        case rel => exact ⟨1, by omega, rfl, ⟨fun _ => HE.out⟩, ⟨by omega⟩, ⟨by omega⟩⟩
        case measure => simp [intOf]
      · have hd : (a1 != 0) = true := by simpa using e
        have HF := Kp.mk (show a1 = r from by
          rcases HO.out with ⟨_, h⟩ | ⟨h, _⟩ | ⟨h, _⟩ | ⟨h, _⟩
          · exact h.out.symm
          · exact absurd h e
          · exact absurd h e
          · exact absurd h e)
        clear e
        go_wp2
        go_ret
        exact ⟨by rw [← HF.out]; rfl, rfl⟩
    · by_cases e : a2 = 0
      · have hd : (a2 != 0) = false := by simp [e]
        have HE := Kp.mk e
        clear e
        go_wp2
        go_round
        case rel => exact ⟨2, by omega, rfl, ⟨fun _ => K1.out (by omega)⟩, ⟨fun _ => HE.out⟩, ⟨by omega⟩⟩
        case measure => simp [intOf]
      · have hd : (a2 != 0) = true := by simpa using e
        have HF := Kp.mk (show a2 = r from by
          have k1 := K1.out (by omega)
          rcases HO.out with ⟨h, _⟩ | ⟨_, _, h⟩ | ⟨_, h, _⟩ | ⟨_, h, _⟩
          · exact absurd k1 h
          · exact h.out.symm
          · exact absurd h e
          · exact absurd h e)
        clear e
        go_wp2
        go_ret
        exact ⟨by rw [← HF.out]; rfl, rfl⟩
    · by_cases e : a3 = 0
      · have hd : (a3 != 0) = false := by simp [e]
        have HE := Kp.mk e
        clear e
        go_wp2
        go_round
        case rel => exact ⟨3, by omega, rfl, ⟨fun _ => K1.out (by omega)⟩, ⟨fun _ => K2.out (by omega)⟩, ⟨fun _ => HE.out⟩⟩
        case measure => simp [intOf]
      · have hd : (a3 != 0) = true := by simpa using e
        have HF := Kp.mk (show a3 = r from by
          have k1 := K1.out (by omega)
          have k2 := K2.out (by omega)
          rcases HO.out with ⟨h, _⟩ | ⟨_, h, _⟩ | ⟨_, _, _, h⟩ | ⟨_, _, h, _⟩
          · exact absurd k1 h
          · exact absurd k2 h
          · exact h.out.symm
          · exact absurd h e)
        clear e
        go_wp2
        go_ret
        exact ⟨by rw [← HF.out]; rfl, rfl⟩
    · have HF := Kp.mk (show r = 0 from by
        have k1 := K1.out (by omega)
        have k2 := K2.out (by omega)
        have k3 := K3.out (by omega)
        rcases HO.out with ⟨h, _⟩ | ⟨_, h, _⟩ | ⟨_, _, h, _⟩ | ⟨_, _, _, h⟩
        · exact absurd k1 h
        · exact absurd k2 h
        · exact absurd k3 h
        · exact h.out)
      go_wp2
      go_ret
      exact ⟨by rw [HF.out]; rfl, rfl⟩

/-- The comparison of two places. -/
def cmpP (L : List Pt) (a b : Nat) : Int := or3 (cmpI (L.getD a pt0).x (L.getD b pt0).x) (cmpI (L.getD a pt0).y (L.getD b pt0).y) (cmpI a b)
theorem cmpP_neg (L : List Pt) (a b : Nat) : cmpP L a b < 0 ↔ ((L.getD a pt0).x < (L.getD b pt0).x ∨ ((L.getD a pt0).x = (L.getD b pt0).x ∧ ((L.getD a pt0).y < (L.getD b pt0).y ∨ ((L.getD a pt0).y = (L.getD b pt0).y ∧ a < b)))) := by
  unfold cmpP or3 cmpI
  generalize (L.getD a pt0).x = x1
  generalize (L.getD b pt0).x = x2
  generalize (L.getD a pt0).y = y1
  generalize (L.getD b pt0).y = y2
  repeat' split
  all_goals omega
def encF (m : Nat) (i : Fin (m + 1)) : Value := .int .i64 ((i.val : Nat) : Int)
def cfF (m : Nat) (L : List Pt) (a b : Fin (m + 1)) : Int := cmpP L a.val b.val
theorem swoF (m : Nat) (L : List Pt) : SWO (ltOf (cfF m L)) where
  irrefl x := by
    unfold ltOf cfF
    rw [decide_eq_false_iff_not, cmpP_neg]; omega
  trans x y z h1 h2 := by
    unfold ltOf cfF at *
    rw [decide_eq_true_eq, cmpP_neg] at *; omega
  ntrans x y z h1 h2 := by
    unfold ltOf cfF at *
    rw [decide_eq_false_iff_not, cmpP_neg] at *; omega
/-- The places of a list by x and y. -/
structure IsOrder (L : List Pt) (O : List Nat) : Prop where
  perm : O.Perm (List.range L.length)
  up : ∀ i j, i < j → j < O.length → lexLe (L.getD (O.getD i 0) pt0) (L.getD (O.getD j 0) pt0)
theorem IsOrder.len {L : List Pt} {O : List Nat} (h : IsOrder L O) : O.length = L.length := by rw [h.perm.length_eq, List.length_range]
theorem IsOrder.lt {L : List Pt} {O : List Nat} (h : IsOrder L O) (i : Nat) (hi : i < O.length) : O.getD i 0 < L.length := by
  have h1 : O[i] ∈ List.range L.length := h.perm.mem_iff.1 (List.getElem_mem hi)
  rw [getD_at _ _ hi]
  exact List.mem_range.1 h1
theorem IsOrder.nodup {L : List Pt} {O : List Nat} (h : IsOrder L O) : O.Nodup := h.perm.nodup_iff.2 List.nodup_range

theorem putCells_fin {m : Nat} (off : Nat) (d : Array (Fin (m + 1))) (c : Array Value) : putCells (encF m) off d c = putCells (Value.int .i64) off (d.map fun i => ((i.val : Nat) : Int)) c := by
  unfold putCells
  apply Array.ext_getElem?
  intro k
  simp only [Array.getElem?_mapIdx, Array.size_map]
  cases c[k]? with
  | none => rfl
  | some y =>
    simp only [Option.map_some]
    by_cases hr : off ≤ k ∧ k < off + d.size
    · rw [if_pos hr, if_pos hr]
      unfold encF
      rw [getElem!_pos d (k - off) (by omega), getElem!_pos (d.map fun i => ((i.val : Nat) : Int)) (k - off) (by rw [Array.size_map]; omega)]
      simp
    · rw [if_neg hr, if_neg hr]
theorem putRow_fin {m : Nat} (w : World) (blk off : Nat) (d : Array (Fin (m + 1))) : putRow (encF m) w blk off d = putRow (Value.int .i64) w blk off (d.map fun i => ((i.val : Nat) : Int)) := by
  unfold putRow
  exact mapBlock_congr w blk _ _ (fun c e fr _ => putCells_fin off d c)
theorem holds_fin {m : Nat} {w : World} {blk : Nat} {d : Array (Fin (m + 1))} (h : Holds (Value.int .i64) w blk 0 (d.map fun i => ((i.val : Nat) : Int))) : Holds (encF m) w blk 0 d := by
  intro j hj
  have := h j (by rw [Array.size_map]; exact hj)
  rw [getElem!_pos (d.map fun i => ((i.val : Nat) : Int)) j (by rw [Array.size_map]; exact hj)] at this
  unfold encF
  rw [getElem!_pos d j hj]
  simpa using this
/-- The row 0, 1, .., m as an array. -/
def allF (m : Nat) : Array (Fin (m + 1)) := Array.ofFn id
theorem allF_list (m : Nat) : (allF m).toList.map (fun i => i.val) = List.range (m + 1) := by
  apply List.ext_getElem
  · simp [allF]
  · intro i h1 h2
    rw [List.getElem_map]
    simp only [allF, Array.getElem_toList, Array.getElem_ofFn, id, List.getElem_range]

theorem ext_all {α : Type} (d : Array α) (n : Nat) (h : d.size = n) : d.extract 0 n = d := by subst h; simp
/-- slices.SortFunc on a row of all places of the call's own, by a comparison that reads the points. -/
theorem sortPl_own (g : Nat) (cb : Array Value) (L : List Pt) (m : Nat) (B : Nat) (a : Option Addr) (c : Nat) (w : World) (hL : L.length = m + 1) (hm : m ≤ 1000) (eg : ∀ args w, (callFunc g args).run Tryz.prog w = .ok (.enter g args) w)
    (h : w.ownsRow B 3 1 (.slice a (m + 1) c) (m + 1) (ints ((List.range (m + 1)).map Int.ofNat))) (hB : B ≤ w.heap.size)
    (hcmp : ∀ w' gb, a = some ⟨gb, 0, none⟩ → w.grownBy w' (some gb) → ∀ x y : Nat, x < m + 1 → y < m + 1 → Calls Tryz.prog g (#[.int .i64 x, .int .i64 y] ++ cb) w' fun e w'' => e = .returned (.int .i64 (cmpP L x y)) ∧ ∃ q os, w'' = grow (w'.drewN q) os) :
    Calls Tryz.prog 80 #[.slice a (m + 1) c, .func (.func g) #[] cb] w fun e w' => e = .returned (.tuple #[]) ∧ ∃ O, Kp (IsOrder L O) ∧ Kp (w'.ownsRow B 3 1 (.slice a (m + 1) c) (m + 1) (ints (O.map Int.ofNat))) ∧ Kp (w.grownBy w' (blk a)) := by
  obtain ⟨gb, rfl, hg, hg2⟩ := own_some h (by omega)
  rcases h.2 with ⟨hv, _⟩ | ⟨g', cap', cur, hv, hB', hgb, h1, h2, h3, h4⟩
  · cases hv
  simp only [Value.slice.injEq, Option.some.injEq, Addr.mk.injEq, and_true, true_and] at hv
  obtain ⟨rfl, rfl⟩ := hv
  have hd : (allF m).map (fun i => ((i.val : Nat) : Int)) = ((List.range (m + 1)).map Int.ofNat).toArray := by
    apply Array.toList_inj.1
    rw [Array.toList_map, ← allF_list m, List.map_map]
    rfl
  have hs : (allF m).size = m + 1 := by simp [allF]
  have hH : Holds (encF m) w gb 0 (allF m) := holds_fin (by
    rw [hd]
    exact holds_of_blockI hgb (by
      rw [Nat.mul_one] at h4
      rw [List.length_map, List.length_range]
      exact h4))
  have hC : CmpLays1 Tryz.prog g cb (encF m) (cfF m L) gb 0 (allF m).size w := by
    intro k os dk hk x y
    have hgr : w.grownBy (sortWorld (encF m) w gb 0 k dk os) (some gb) := by
      unfold sortWorld
      rw [putRow_fin]
      exact grownBy_sortedI _
    exact hcmp _ gb rfl hgr x.val y.val x.isLt y.isLt
  have hS := Tryz.slices_SortFunc (encF m) (fun _ => rfl) (cfF m L) (swoF m L) g cb gb 0 c (allF m) w eg hC hH hg2 (by rw [hs]; omega)
  rw [hs] at hS
  refine hS.mono ?_
  rintro e w' ⟨rfl, d', q, os, hp, hsrt, rfl⟩
  have hsz : d'.size = m + 1 := by rw [hp.1, hs]
  have hpl : (d'.toList.map fun i => i.val).Perm (List.range (m + 1)) := by
    rw [← allF_list m]
    have := hp.2.2
    rw [ext_all d' _ hsz, ext_all (allF m) _ hs] at this
    exact this.map _
  refine ⟨rfl, d'.toList.map (fun i => i.val), ⟨⟨by rw [hL]; exact hpl, ?_⟩⟩, ⟨?_⟩, ⟨?_⟩⟩
  · intro i j hij hj
    rw [List.length_map, Array.length_toList] at hj
    have h5 := hsrt i j (Nat.zero_le _) hij (by omega)
    unfold ltOf cfF at h5
    rw [decide_eq_false_iff_not, cmpP_neg, getElem!_pos d' j hj, getElem!_pos d' i (by omega)] at h5
    have e1 : ∀ k (h : k < d'.size), (d'.toList.map fun i => i.val).getD k 0 = d'[k].val := fun k h => by
      rw [getD_at _ _ (by rw [List.length_map, Array.length_toList]; exact h), List.getElem_map, Array.getElem_toList]
    rw [e1 i (by omega), e1 j hj]
    unfold lexLe
    omega
  · unfold sortWorld
    rw [putRow_fin]
    have e3 : d'.map (fun i => ((i.val : Nat) : Int)) = ((d'.toList.map fun i => i.val).map Int.ofNat).toArray := by
      apply Array.toList_inj.1
      rw [Array.toList_map, List.map_map]
      rfl
    rw [e3]
    have := ownsRow_sortedI (w := w) (base := B) (g := gb) (cap := c) (n := q) (e := 3) (os := os) (cur := cur) (ss := (List.range (m + 1)).map Int.ofNat) (ts := (d'.toList.map fun i => i.val).map Int.ofNat) (by simp [hsz]) hB' hgb (by simp; omega) h2 h3
    rw [List.length_map, List.length_range] at this
    exact this
  · unfold sortWorld
    rw [putRow_fin]
    exact grownBy_sortedI _

/-- slices.SortFunc on nothing. -/
theorem sort_none (g : Nat) (cb : Array Value) (a : Option Addr) (c : Nat) (w : World) :
    Calls Tryz.prog 80 #[.slice a 0 c, .func (.func g) #[] cb] w fun e w' => e = .returned (.tuple #[]) ∧ Drew w w' := by
  have HL := Kp.mk (show Calls Tryz.prog 112 #[.int .u64 0] w (fun e w' => e = .returned (.int .i64 0) ∧ w' = w) from
    Tryz.bits_Len 0 w (by omega) (by omega))
  go_enter Tryz.func80, Tryz.ntmps80
  go_wp2_with fail
  refine HL.out.mono ?_
  rintro e w' ⟨rfl, rfl⟩
  clear HL
  go_wp2
  go_loop [1, 2] (fun x y => x = .int .i64 0 ∧ y = .int .i64 0) (fun _ _ => 0)
  case atStart => exact ⟨rfl, rfl⟩
  case round =>
    obtain ⟨rfl, rfl⟩ := hrel
    go_wp2
    go_loop [8] (fun x => x = .int .i64 1) (fun _ => 0)
    case atStart => rfl
    case round =>
      obtain rfl := hrel
      go_wp2
      go_end0
      go_wp2
      refine bodyPost_ret (results_none rfl _ _ _) rfl ?_
      go_wp2
      go_end0
      exact ⟨rfl, 0, rfl⟩
/-- slices.SortFunc on a row of all places, however long. -/
theorem sortPl_any (g : Nat) (cb : Array Value) (L : List Pt) (n : Nat) (B : Nat) (a : Option Addr) (c : Nat) (w : World) (hL : L.length = n) (hm : n ≤ 1000) (eg : ∀ args w, (callFunc g args).run Tryz.prog w = .ok (.enter g args) w)
    (h : w.ownsRow B 3 1 (.slice a n c) n (ints ((List.range n).map Int.ofNat))) (hB : B ≤ w.heap.size)
    (hcmp : ∀ w' gb, a = some ⟨gb, 0, none⟩ → w.grownBy w' (some gb) → ∀ x y : Nat, x < n → y < n → Calls Tryz.prog g (#[.int .i64 x, .int .i64 y] ++ cb) w' fun e w'' => e = .returned (.int .i64 (cmpP L x y)) ∧ ∃ q os, w'' = grow (w'.drewN q) os) :
    Calls Tryz.prog 80 #[.slice a n c, .func (.func g) #[] cb] w fun e w' => e = .returned (.tuple #[]) ∧ ∃ O, Kp (IsOrder L O) ∧ Kp (w'.ownsRow B 3 1 (.slice a n c) n (ints (O.map Int.ofNat))) ∧ Kp (w.grownBy w' (blk a)) := by
  rcases n with _ | m
  · refine (sort_none g cb a c w).mono ?_
    rintro e w' ⟨rfl, q, rfl⟩
    obtain rfl : L = [] := List.length_eq_zero_iff.1 hL
    exact ⟨rfl, [], ⟨⟨List.Perm.refl _, fun i j _ hj => absurd hj (by simp)⟩⟩, ⟨own_below h (Drew.below ⟨q, rfl⟩ _)⟩, ⟨⟨rfl, rfl, rfl, Nat.le_refl _, fun _ _ _ => rfl⟩⟩⟩
  · exact sortPl_own g cb L m B a c w hL (by omega) eg h hB hcmp

end Go.Proofs.YtedchegejalolaaGreatDoor

/- A comparison of two places by x, y and place: the walk of the closure. -/
namespace Go.Proofs.YtedchegejalolaaGreatDoor
set_option linter.unusedVariables false
open Go.RowKit Go.Sort

set_option maxRecDepth 100000 in
set_option maxHeartbeats 2000000 in
theorem gridOrd_any (bs : Nat) (a : Option Addr) (cap n x y : Nat) (L : List Pt) (w : World) (h : SlF ptL 3 w a n cap L) (hn : n ≤ 1000) (hb : w.cell? ⟨bs, 0, none⟩ = some (.slice a n cap)) (hx : x < n) (hy : y < n) :
    Calls Tryz.prog 97 #[.int .i64 x, .int .i64 y, .pointer (some ⟨bs, 0, none⟩)] w fun e w' => e = .returned (.int .i64 (cmpP L x y)) ∧ ∃ q os, w' = grow (w.drewN q) os := by
  have hl := h.len ptL_len (by omega)
  obtain ⟨b, off, rfl, hbw, cx⟩ := h.at ptL_len (by omega) x (by omega)
  obtain ⟨_, _, e1, _, cy⟩ := h.at ptL_len (by omega) y (by omega)
  simp only [Option.some.injEq, Addr.mk.injEq, and_true] at e1
  obtain ⟨rfl, rfl⟩ := e1
  rw [← getD_at L pt0 (by omega)] at cx cy
  have HP := Kp.mk (show cmpP L x y = or3 (cmpI (L.getD x pt0).x (L.getD y pt0).x) (cmpI (L.getD x pt0).y (L.getD y pt0).y) (cmpI x y) from rfl)
  generalize L.getD x pt0 = p at *
  generalize L.getD y pt0 = q at *
  have x0 : w.cell? ⟨b, off + x * 3, none⟩ = some (.int .i64 p.x) := cx 0 (by omega)
  have x1 : w.cell? ⟨b, off + x * 3 + 1, none⟩ = some (.int .i64 p.y) := cx 1 (by omega)
  have y0 : w.cell? ⟨b, off + y * 3, none⟩ = some (.int .i64 q.x) := cy 0 (by omega)
  have y1 : w.cell? ⟨b, off + y * 3 + 1, none⟩ = some (.int .i64 q.y) := cy 1 (by omega)
  have C1 := Kp.mk (fun W => q_eq (compare_any p.x q.x W))
  have C2 := Kp.mk (fun W => q_eq (compare_any p.y q.y W))
  have C3 := Kp.mk (fun W => q_eq (compare_any (x : Int) (y : Int) W))
  rw [HP.out]
  clear h cx cy HP hl
  generalize cmpI p.x q.x = c1 at *
  generalize cmpI p.y q.y = c2 at *
  generalize cmpI (x : Int) (y : Int) = c3 at *
  go_enter Tryz.func97, Tryz.ntmps97
  go_wp2
  go_still_tail 25, (by kernel_rfl)
  still_call (C1.out _)
  repeat still_step
  still_call (C2.out _)
  repeat still_step
  still_call (C3.out _)
  try refine wpStill_nil ?_
  have bx := Box.new w.drew #[.int .i64 c1, .int .i64 c2, .int .i64 c3] 3
  have CO := Kp.mk (or3_any w.heap.size c1 c2 c3 (w.drew.alloc (.cells #[.int .i64 c1, .int .i64 c2, .int .i64 c3] 3)) (bx.cell 0 rfl) (bx.cell 1 rfl) (bx.cell 2 rfl))
  clear bx
  go_wp2_with fail
  refine CO.out.mono ?_
  rintro e w' ⟨rfl, rfl⟩
  go_wp2
  go_ret
  exact ⟨rfl, 1, #[.cells #[.int .i64 c1, .int .i64 c2, .int .i64 c3] 3], by rw [alloc_eq_grow, drew_grow]; rfl⟩

end Go.Proofs.YtedchegejalolaaGreatDoor


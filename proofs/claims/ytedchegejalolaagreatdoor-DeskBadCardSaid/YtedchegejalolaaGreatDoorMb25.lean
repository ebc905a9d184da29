import Derived.Test.YtedchegejalolaaGreatDoorMb24
import Derived.Test.YtedchegejalolaaGreatDoorMb4
import Derived.Test.YtedchegejalolaaGreatDoorMb16
import Derived.Test.YtedchegejalolaaGreatDoorMb8
import Derived.Test.YtedchegejalolaaGreatDoorMb13
import Derived.Test.YtedchegejalolaaGreatDoorMb0
import Derived.Lib.SliceRun
/- Places of a row, one behind the other at one place taken out: slices.CompactFunc by a test that reads the points. -/
namespace Go.Proofs.YtedchegejalolaaGreatDoor
set_option linter.unusedVariables false
open Go.RowKit

/-- Two points at one place. -/
def sameP (p q : Pt) : Bool := p.x == q.x && p.y == q.y
theorem sameP_iff (p q : Pt) : sameP p q = true ↔ p.x = q.x ∧ p.y = q.y := by unfold sameP; simp
/-- Those of the first k that are kept. -/
def kept (g : Nat → Pt) (O : List Nat) : Nat → List Nat
  | 0 => []
  | k + 1 => if k ≠ 0 ∧ sameP (g (O.getD k 0)) (g (O.getD (k - 1) 0)) = true then kept g O k else kept g O k ++ [O.getD k 0]
theorem kept_skip {g : Nat → Pt} {O : List Nat} {k : Nat} (h0 : 0 < k) (h : sameP (g (O.getD k 0)) (g (O.getD (k - 1) 0)) = true) : kept g O (k + 1) = kept g O k := by
  rw [kept, if_pos ⟨by omega, h⟩]
theorem kept_take {g : Nat → Pt} {O : List Nat} {k : Nat} (h : k = 0 ∨ sameP (g (O.getD k 0)) (g (O.getD (k - 1) 0)) = false) : kept g O (k + 1) = kept g O k ++ [O.getD k 0] := by
  rw [kept, if_neg (by rintro ⟨h1, h2⟩; rcases h with h | h <;> simp_all)]
theorem kept_len (g : Nat → Pt) (O : List Nat) : ∀ k, (kept g O k).length ≤ k := by
  intro k
  induction k with
  | zero => simp [kept]
  | succ k ih =>
    rw [kept]; split
    · omega
    · rw [List.length_append]; simp; omega
theorem kept_pos (g : Nat → Pt) (O : List Nat) : ∀ k, 0 < k → 0 < (kept g O k).length := by
  intro k
  induction k with
  | zero => intro h; omega
  | succ k ih =>
    intro _
    by_cases h0 : k = 0
    · subst h0; rw [kept_take (.inl rfl)]; simp
    · rw [kept]; split
      · exact ih (by omega)
      · simp
theorem kept_mem (g : Nat → Pt) (O : List Nat) : ∀ k, k ≤ O.length → ∀ x ∈ kept g O k, ∃ i, i < k ∧ O.getD i 0 = x := by
  intro k
  induction k with
  | zero => intro _ x h; simp [kept] at h
  | succ k ih =>
    intro hk x h
    rw [kept] at h
    split at h
    · obtain ⟨i, h1, h2⟩ := ih (by omega) x h; exact ⟨i, by omega, h2⟩
    · rcases List.mem_append.1 h with h | h
      · obtain ⟨i, h1, h2⟩ := ih (by omega) x h; exact ⟨i, by omega, h2⟩
      · exact ⟨k, by omega, (List.mem_singleton.1 h).symm⟩
/-- Of each place one is kept. -/
theorem kept_all (g : Nat → Pt) (O : List Nat) : ∀ k, ∀ i, i < k → ∃ x ∈ kept g O k, (g x).x = (g (O.getD i 0)).x ∧ (g x).y = (g (O.getD i 0)).y := by
  intro k
  induction k with
  | zero => intro i h; omega
  | succ k ih =>
    intro i hi
    by_cases hc : k ≠ 0 ∧ sameP (g (O.getD k 0)) (g (O.getD (k - 1) 0)) = true
    · rw [kept, if_pos hc]
      by_cases hik : i = k
      · subst hik
        obtain ⟨x, hx, h1, h2⟩ := ih (i - 1) (by omega)
        obtain ⟨e1, e2⟩ := (sameP_iff _ _).1 hc.2
        exact ⟨x, hx, by rw [h1, e1], by rw [h2, e2]⟩
      · exact ih i (by omega)
    · rw [kept, if_neg hc]
      by_cases hik : i = k
      · subst hik; exact ⟨_, by simp, rfl, rfl⟩
      · obtain ⟨x, hx, h⟩ := ih i (by omega); exact ⟨x, List.mem_append_left _ hx, h⟩
/-- Those that are kept of an order stand one ahead of the other. -/
theorem kept_up {g : Nat → Pt} {O : List Nat} (h : ∀ i j, i < j → j < O.length → lx0 (g (O.getD i 0)) (g (O.getD j 0))) : ∀ k, k ≤ O.length → (kept g O k).Pairwise (fun a b => lx (g a) (g b)) := by
  intro k
  induction k with
  | zero => intro _; simp [kept]
  | succ k ih =>
    intro hk
    by_cases hc : k ≠ 0 ∧ sameP (g (O.getD k 0)) (g (O.getD (k - 1) 0)) = true
    · rw [kept, if_pos hc]; exact ih (by omega)
    · rw [kept, if_neg hc]
      refine List.pairwise_append.2 ⟨ih (by omega), List.pairwise_singleton _ _, fun a ha b hb => ?_⟩
      rw [List.mem_singleton.1 hb]
      obtain ⟨i, hi, rfl⟩ := kept_mem g O k (by omega) a ha
      have h1 : lx0 (g (O.getD i 0)) (g (O.getD (k - 1) 0)) := by
        by_cases e : i = k - 1
        · rw [e]; exact lx0_refl _
        · exact h i (k - 1) (by omega) (by omega)
      have h2 := h (k - 1) k (by omega) (by omega)
      have h3 : ¬ ((g (O.getD k 0)).x = (g (O.getD (k - 1) 0)).x ∧ (g (O.getD k 0)).y = (g (O.getD (k - 1) 0)).y) := fun e => hc ⟨by omega, (sameP_iff _ _).2 e⟩
      unfold lx0 at h1 h2
      unfold lx
      omega
attribute [irreducible] kept sameP

/-- The test of two places of the row. -/
def SameT (g : FuncId) (cb : Array Value) (L : Nat → Pt) (W : World) (m : Nat) : Prop := ∀ q x y, x < m → y < m → Calls Tryz.prog g (#[.int .i64 (x : Nat), .int .i64 (y : Nat)] ++ cb) (W.drewN q) fun e w' => e = .returned (.bool (sameP (L x) (L y))) ∧ ∃ q', w' = W.drewN q'

/-- The row behind the step of the second loop. -/
structure CInv (L : Nat → Pt) (O X : List Nat) (j kk : Nat) : Prop where
  len : X.length = O.length
  kl : (kept L O j).length = kk
  low : X.take kk = kept L O j
  high : ∀ i, j ≤ i + 1 → X.getD i 0 = O.getD i 0
  lt : kk < j
theorem CInv.start {L : Nat → Pt} {O : List Nat} {k : Nat} (h : kept L O k = O.take k) (hk : k < O.length) (h0 : 0 < k) (hs : sameP (L (O.getD k 0)) (L (O.getD (k - 1) 0)) = true) : CInv L O O (k + 1) k :=
  ⟨rfl, by rw [kept_skip h0 hs, h, List.length_take]; omega, by rw [kept_skip h0 hs, h], fun _ _ => rfl, by omega⟩
theorem CInv.skip {L : Nat → Pt} {O X : List Nat} {j kk : Nat} (h : CInv L O X j kk) (hs : sameP (L (O.getD j 0)) (L (O.getD (j - 1) 0)) = true) : CInv L O X (j + 1) kk := by
  have e := kept_skip (g := L) (O := O) (k := j) (by have := h.lt; omega) hs
  exact ⟨h.len, by rw [e]; exact h.kl, by rw [e]; exact h.low, fun i hi => h.high i (by omega), by have := h.lt; omega⟩
theorem CInv.put {L : Nat → Pt} {O X : List Nat} {j kk : Nat} (h : CInv L O X j kk) (hj : j < O.length) (hs : sameP (L (O.getD j 0)) (L (O.getD (j - 1) 0)) = false) : CInv L O (X.set kk (O.getD j 0)) (j + 1) (kk + 1) := by
  have e := kept_take (g := L) (O := O) (k := j) (.inr hs)
  have hlt := h.lt
  have hl := h.len
  refine ⟨by rw [List.length_set]; exact hl, by rw [e, List.length_append, h.kl]; rfl, ?_, fun i hi => ?_, by omega⟩
  · rw [e, ← h.low, List.take_succ_eq_append_getElem (by rw [List.length_set]; omega), List.getElem_set_self]
    congr 1
    apply List.ext_getElem
    · simp
    · intro i h1 h2
      simp only [List.length_take, List.length_set] at h1
      rw [List.getElem_take, List.getElem_take, List.getElem_set_ne (by omega)]
  · rw [← h.high i (by omega)]
    simp [List.getD, List.getElem?_set_ne (show kk ≠ i by omega)]
theorem kept_same {L : Nat → Pt} {O : List Nat} {k : Nat} (h : kept L O k = O.take k) (hk : k < O.length) (hs : k = 0 ∨ sameP (L (O.getD k 0)) (L (O.getD (k - 1) 0)) = false) : kept L O (k + 1) = O.take (k + 1) := by
  rw [kept_take hs, h, List.take_succ_eq_append_getElem hk, getD_at _ _ hk]
set_option maxRecDepth 100000 in
set_option maxHeartbeats 4000000 in
theorem compact_any (f : FuncId) (cb : Array Value) (eg : ∀ args w, (callFunc f args).run Tryz.prog w = .ok (.enter f args) w) (L : Nat → Pt) (m B g c n : Nat) (O : List Nat) (w : World)
    (h : w.ownsRow B 3 1 (.slice (some ⟨g, 0, none⟩) n c) n (ints (O.map Int.ofNat))) (hl : O.length = n) (h0 : 0 < n) (hn : n ≤ 100000) (hm : ∀ i, i < n → O.getD i 0 < m)
    (ht : ∀ w', w.grownBy w' (some g) → SameT f cb L w' m) (hB : B ≤ w.heap.size) :
    Calls Tryz.prog 88 #[.slice (some ⟨g, 0, none⟩) n c, .func (.func f) #[] cb] w fun e w' => ∃ r, e = .returned (.slice (some ⟨g, 0, none⟩) r c) ∧ Kp ((kept L O n).length = r) ∧ Kp (w'.ownsRow B 3 1 (.slice (some ⟨g, 0, none⟩) r c) r (ints ((kept L O n).map Int.ofNat))) ∧ Kp (w.grownBy w' (some g)) := by
  have H := Kp.mk h
  have HL := Kp.mk hl
  have HM := Kp.mk hm
  have HT := Kp.mk ht
  have hnc : n ≤ c := by have := (own_slc h).le; exact this
  have k1 := Kp.mk (kept_same (L := L) (O := O) (k := 0) (by unfold kept; simp) (by omega) (.inl rfl))
  clear h hl hm ht
  by_cases h2 : n < 2
  · obtain rfl : n = 1 := by omega
    go_enter Tryz.func88, Tryz.ntmps88
    go_wp2
    go_ret
    have e : kept L O 1 = O := by rw [k1.out]; exact List.take_of_length_le (by rw [HL.out]; omega)
    exact ⟨1, rfl, ⟨by rw [e]; exact HL.out⟩, ⟨by rw [e]; exact H.out⟩, ⟨grown_refl _ _⟩⟩
  · go_enter Tryz.func88, Tryz.ntmps88
    obtain ⟨wo, rfl⟩ : ∃ wo : World, wo = w := ⟨_, rfl⟩
    go_wp2
    go_loopw [5] (fun i wr => ∃ (k : Nat), 1 ≤ k ∧ k ≤ n ∧ i = .int .i64 k ∧ Kp (wr.ownsRow B 3 1 (.slice (some ⟨g, 0, none⟩) n c) n (ints (O.map Int.ofNat))) ∧ Kp (wo.grownBy wr (some g)) ∧ Kp (kept L O k = O.take k)) (fun i _ => n - (intOf i).toNat)
    case atStart => exact ⟨1, Nat.le_refl _, by omega, rfl, H, ⟨grown_refl _ _⟩, k1⟩
    case round =>
      obtain ⟨k, hk1, hk, rfl, HO1, HG1, HK⟩ := hrel
      by_cases hlt : k < n
      · have c1 := nat_at HO1.out HL.out k hlt
        have c0 := nat_at HO1.out HL.out (k - 1) (by omega)
        have CT := Kp.mk (HT.out wr HG1.out)
        unfold SameT at CT
        have CT2 := Kp.mk (fun q' => CT.out q' (O.getD k 0) (O.getD (k - 1) 0) (HM.out k hlt) (HM.out (k - 1) (by omega)))
        obtain ⟨b, hb⟩ : ∃ b, b = sameP (L (O.getD k 0)) (L (O.getD (k - 1) 0)) := ⟨_, rfl⟩
        have HBB := Kp.mk hb
        rw [← hb] at CT2
        clear CT hb
        obtain ⟨x, hx⟩ : ∃ x, x = O.getD k 0 := ⟨_, rfl⟩
        obtain ⟨y, hy⟩ : ∃ y, y = O.getD (k - 1) 0 := ⟨_, rfl⟩
        rw [← hx] at c1 CT2
        rw [← hy] at c0 CT2
        have HX := Kp.mk hx
        have HY := Kp.mk hy
        clear hx hy
        cases b with
        | true =>
          go_wp2_with fail
          go_quiet ((go_at_fn f; exact CT2.out _))
          go_wp2
          clear c0 c1 CT2
          have HO2 := Kp.mk (own_below HO1.out (drewN_below nq))
          have HG2 := Kp.mk (grown_trans HG1.out (grown_of_below (r := some g) (drewN_below (B := wr.heap.size) nq)))
          generalize wr.drewN nq = ws at *
          go_loopw [5, 7] (fun i j wr => ∃ (kk k2 : Nat) (X : List Nat), i = .int .i64 kk ∧ j = .int .i64 k2 ∧ 1 ≤ k2 ∧ k + k2 ≤ n ∧ Kp (CInv L O X (k + k2) kk) ∧ Kp (wr.ownsRow B 3 1 (.slice (some ⟨g, 0, none⟩) n c) n (ints (X.map Int.ofNat))) ∧ Kp (wo.grownBy wr (some g))) (fun _ j _ => n - (intOf j).toNat)
          case atStart => exact ⟨k, 1, O, rfl, rfl, Nat.le_refl _, by omega, ⟨CInv.start HK.out (by rw [HL.out]; exact hlt) hk1 HBB.out.symm⟩, HO2, HG2⟩
          case round =>
            obtain ⟨kk, k2, X, rfl, rfl, hk2, hkk2, HI, HO, HG⟩ := hrel
            have hkk := HI.out.lt
            have hXl := HI.out.len
            rw [HL.out] at hXl
            have hpos : 0 < kk := by rw [← HI.out.kl]; exact kept_pos _ _ _ (by omega)
            by_cases hlt2 : k + k2 < n
            · have cm := nat_at HO.out hXl (k + k2) hlt2
              have cp := nat_at HO.out hXl (k + k2 - 1) (by omega)
              have ck := nat_at HO.out hXl kk (by omega)
              have fk := HO.out.frozenAt kk
              rw [HI.out.high (k + k2) (by omega)] at cm
              rw [HI.out.high (k + k2 - 1) (by omega)] at cp
              have ep : k + k2 - 1 = k + (k2 - 1) := by omega
              have CT := Kp.mk (HT.out wr HG.out)
              unfold SameT at CT
              have CT2 := Kp.mk (fun q' => CT.out q' (O.getD (k + k2) 0) (O.getD (k + k2 - 1) 0) (HM.out _ hlt2) (HM.out _ (by omega)))
              obtain ⟨b, hb⟩ : ∃ b, b = sameP (L (O.getD (k + k2) 0)) (L (O.getD (k + k2 - 1) 0)) := ⟨_, rfl⟩
              have HB2 := Kp.mk hb
              rw [← hb] at CT2
              clear CT hb
              obtain ⟨u, hu⟩ : ∃ u, u = O.getD (k + k2) 0 := ⟨_, rfl⟩
              obtain ⟨v, hv⟩ : ∃ v, v = O.getD (k + k2 - 1) 0 := ⟨_, rfl⟩
              have HPUT := Kp.mk (HI.out.put (by rw [HL.out]; exact hlt2))
              rw [← hu] at cm CT2 HPUT
              rw [← hv] at cp CT2
              rw [ep] at cp
              have HU := Kp.mk hu
              have HV := Kp.mk hv
              clear hu hv ep hXl
              generalize X.getD kk 0 = old at ck
              cases b with
              | true =>
                go_wp2_with fail
                go_quiet ((go_at_fn f; exact CT2.out _))
                go_wp2
                go_roundw
                case rel => exact ⟨kk, k2 + 1, X, rfl, by go_num, by omega, by omega, ⟨HI.out.skip HB2.out.symm⟩, ⟨own_below HO.out (drewN_below _)⟩, ⟨grown_trans HG.out (grown_of_below (drewN_below _))⟩⟩
                case measure => simp [intOf]; omega
              | false =>
                go_wp2_with fail
                go_quiet ((go_at_fn f; exact CT2.out _))
                have cm' : (wr.drewN nq).cell? ⟨g, k + k2, none⟩ = some (.int .i64 (u : Int)) := cm
                have ck' : (wr.drewN nq).cell? ⟨g, kk, none⟩ = some (.int .i64 (old : Int)) := ck
                have fk' : (wr.drewN nq).frozen? ⟨g, kk, none⟩ = false := fk
                have HN := Kp.mk (show ((wr.drewN nq).setCell ⟨g, kk, none⟩ (.int .i64 (u : Int))).ownsRow B 3 1 (.slice (some ⟨g, 0, none⟩) n c) n (ints ((X.set kk u).map Int.ofNat)) from by
                  rw [← natrow_set]
                  exact ((own_below HO.out (drewN_below nq)).stored kk (.int .i64 (u : Int))).1)
                have HGN := Kp.mk (show wo.grownBy ((wr.drewN nq).setCell ⟨g, kk, none⟩ (.int .i64 (u : Int))) (some g) from grown_trans (grown_trans HG.out (grown_of_below (drewN_below nq))) (grown_set _ g kk _))
                go_wp2
                go_roundw
                case rel => exact ⟨kk + 1, k2 + 1, _, by go_num, by go_num, by omega, by omega, ⟨HPUT.out (by rw [HU.out]; exact HB2.out.symm)⟩, by simpa using HN, by simpa using HGN⟩
                case measure => simp [intOf]; omega
            · have hend : k + k2 = n := by omega
              have hcl : ∀ ty, (Builtin.clear_ #[33] ty #[.slice (some ⟨g, kk, none⟩) (n - kk) (c - kk)]).run Tryz.prog wr = .ok (.tuple #[]) (wr.setCells g kk (List.replicate (n - kk) (.int .i64 0))) :=
                fun ty => Lib.run_clear_slice wr 33 3 ty (.int .i64 0) Tryz.underlying33 (fun w => by kernel_rfl) rfl rfl g kk (n - kk) (c - kk) (by omega) (fun j hj => by rw [nat_at HO.out hXl (kk + j) (by omega)]; rfl) (fun j hj => HO.out.frozenAt (kk + j))
              have HS := own_setCells (List.replicate (n - kk) (.int .i64 0)) kk wr _ HO.out (by rw [List.length_replicate]; omega)
              have HF := Kp.mk (own_front HS.1 (show kk ≤ n by omega))
              have HG2 := Kp.mk (grown_trans HG.out HS.2)
              clear HS
              have hkc : kk ≤ c := by omega
              go_wp2
              go_ret
              have e : kept L O n = X.take kk := by rw [← hend]; exact HI.out.low.symm
              refine ⟨kk, rfl, ⟨by rw [← hend]; exact HI.out.kl⟩, ⟨?_⟩, HG2⟩
              rw [e, List.map_take]
              have := HF.out
              rw [List.append_assoc, List.take_append_of_le_length (by rw [List.length_take, ints_length, List.length_map, hXl]; omega), List.take_take, Nat.min_self] at this
              simpa [ints] using this
        | false =>
          go_wp2_with fail
          go_quiet ((go_at_fn f; exact CT2.out _))
          go_wp2
          go_roundw
          case rel => exact ⟨k + 1, by omega, by omega, by go_num, ⟨own_below HO1.out (drewN_below _)⟩, ⟨grown_trans HG1.out (grown_of_below (drewN_below _))⟩, ⟨kept_same HK.out (by rw [HL.out]; exact hlt) (.inr HBB.out.symm)⟩⟩
          case measure => simp [intOf]; omega
      · obtain rfl : k = n := by omega
        go_wp2
        go_ret
        have e : kept L O k = O := by rw [HK.out]; exact List.take_of_length_le (by rw [HL.out]; omega)
        exact ⟨k, rfl, ⟨by rw [e]; exact HL.out⟩, ⟨by rw [e]; exact HO1.out⟩, HG1⟩

end Go.Proofs.YtedchegejalolaaGreatDoor

/- Package hull: the walk of side. -/
namespace Go.Proofs.YtedchegejalolaaGreatDoor
set_option linter.unusedVariables false
open Go.RowKit

theorem pop_len (g : Nat → Pt) (c : Nat) : ∀ S, (popL g c S).length ≤ S.length := by
  intro S
  induction S with
  | nil => exact Nat.le_refl _
  | cons b S ih =>
    cases S with
    | nil => exact Nat.le_refl _
    | cons a S =>
      rw [popL]
      split
      · have := ih; simp at *; omega
      · exact Nat.le_refl _
theorem side_len (g : Nat → Pt) : ∀ (l S : List Nat), (sideS g S l).length ≤ S.length + l.length := by
  intro l
  induction l with
  | nil => intro S; exact Nat.le_refl _
  | cons c l ih =>
    intro S
    have h1 := ih (c :: popL g c S)
    have h2 := pop_len g c S
    simp only [List.length_cons] at *
    show (sideS g (c :: popL g c S) l).length ≤ _
    omega
theorem pop_mem (g : Nat → Pt) (c : Nat) : ∀ S x, x ∈ popL g c S → x ∈ S := by
  intro S
  induction S with
  | nil => intro x h; exact h
  | cons b S ih =>
    cases S with
    | nil => intro x h; exact h
    | cons a S =>
      intro x h
      rw [popL] at h
      split at h
      · exact List.mem_cons_of_mem _ (ih x h)
      · exact h
theorem side_mem (g : Nat → Pt) : ∀ (l S : List Nat) x, x ∈ sideS g S l → x ∈ S ∨ x ∈ l := by
  intro l
  induction l with
  | nil => intro S x h; exact .inl h
  | cons c l ih =>
    intro S x h
    rcases ih (c :: popL g c S) x h with h | h
    · rcases List.mem_cons.1 h with rfl | h
      · exact .inr (by simp)
      · exact .inl (pop_mem g c S x h)
    · exact .inr (List.mem_cons_of_mem _ h)
/-- The stack behind the first k of a row. -/
def sideN (g : Nat → Pt) (O : List Nat) (k : Nat) : List Nat := sideS g [] (O.take k)
theorem sideN_zero (g : Nat → Pt) (O : List Nat) : sideN g O 0 = [] := rfl
theorem sideN_succ (g : Nat → Pt) (O : List Nat) (k : Nat) (h : k < O.length) : sideN g O (k + 1) = O.getD k 0 :: popL g (O.getD k 0) (sideN g O k) := by
  unfold sideN sideS
  rw [List.take_succ_eq_append_getElem h, List.foldl_append, getD_at _ _ h]; rfl
theorem sideN_all (g : Nat → Pt) (O : List Nat) : sideN g O O.length = sideS g [] O := by unfold sideN; rw [List.take_length]
theorem sideN_len (g : Nat → Pt) (O : List Nat) (k : Nat) : (sideN g O k).length ≤ k := by
  have := side_len g (O.take k) []
  simp only [List.length_nil, List.length_take] at this
  unfold sideN; omega
theorem sideN_mem (g : Nat → Pt) (O : List Nat) (k : Nat) : ∀ x ∈ sideN g O k, x ∈ O := fun x h => by
  rcases side_mem g _ _ x h with h | h
  · simp at h
  · exact List.mem_of_mem_take h
theorem pop_stop (g : Nat → Pt) (c : Nat) (S : List Nat) (h : S.length ≤ 1) : popL g c S = S := by
  match S, h with
  | [], _ => rfl
  | [b], _ => rfl
theorem pop_keep {g : Nat → Pt} {c b a : Nat} {r : List Nat} (h : ¬ turnP (g a) (g b) (g c) ≤ 0) : popL g c (b :: a :: r) = b :: a :: r := by rw [popL, if_neg h]
theorem pop_drop {g : Nat → Pt} {c b a : Nat} {r : List Nat} (h : turnP (g a) (g b) (g c) ≤ 0) : popL g c (b :: a :: r) = popL g c (a :: r) := by rw [popL, if_pos h]
attribute [local irreducible] popL
attribute [irreducible] sideN

/-- The points, by place. -/
def ptAt (L : List Pt) (i : Nat) : Pt := L.getD i pt0
theorem own_back {w : World} {B g n c : Nat} {T : List Nat} {t : Nat} (h : w.ownsRow B 3 1 (.slice (some ⟨g, 0, none⟩) n c) n (ints (((t :: T).reverse).map Int.ofNat))) (hl : T.length + 1 = n) : w.ownsRow B 3 1 (.slice (some ⟨g, 0, none⟩) T.length c) T.length (ints (T.reverse.map Int.ofNat)) := by
  have := own_front h (m := T.length) (by omega)
  have e : (ints (((t :: T).reverse).map Int.ofNat)).take T.length = ints (T.reverse.map Int.ofNat) := by
    simp only [List.reverse_cons, List.map_append, ints_append]
    rw [List.take_append_of_le_length (by rw [ints_length]; simp)]
    exact List.take_of_length_le (by rw [ints_length]; simp)
  rwa [e] at this

set_option maxRecDepth 100000 in
set_option maxHeartbeats 8000000 in
theorem side_any (a : Option Addr) (cap n : Nat) (L : List Pt) (oa : Option Addr) (oc m : Nat) (O : List Nat) (w : World) (h : SlF ptL 3 w a n cap L) (hn : n ≤ 1000) (hN : ∀ p ∈ L, p.Near)
    (ho : SlI w oa oc (O.map Int.ofNat)) (hm : O.length = m) (hm1 : m ≤ 1000) (hO : ∀ x ∈ O, x < n) :
    Calls Tryz.prog 90 #[.slice a n cap, .slice oa m oc] w fun e w' => ∃ ra r rc, e = .returned (.slice ra r rc) ∧ Kp ((sideS (ptAt L) [] O).length = r) ∧ Kp (w'.ownsRow w.heap.size 3 1 (.slice ra r rc) r (ints ((sideS (ptAt L) [] O).reverse.map Int.ofNat))) ∧ Kp (Below w.heap.size w w') := by
  have HLN := Kp.mk (show 0 < n → L.length = n from fun h0 => h.len ptL_len (by omega))
  have H := Kp.mk h
  have HN := Kp.mk hN
  have HO := Kp.mk ho
  have HM := Kp.mk hm
  have HOL := Kp.mk hO
  obtain ⟨B, hB⟩ : ∃ B, B = w.heap.size := ⟨_, rfl⟩
  have HB := Kp.mk hB
  have HNr := Kp.mk (show ∀ i, i < n → (L.getD i pt0).Near from fun i hi => by
    have hl := HLN.out (by omega)
    rw [getD_at _ _ (by omega)]; exact HN.out _ (List.getElem_mem _))
  clear h hN ho hm hO hB HLN HN
  obtain ⟨wo, rfl⟩ : ∃ wo : World, wo = w := ⟨_, rfl⟩
  go_enter Tryz.func90, Tryz.ntmps90
  go_wp2
  go_loopw [5, 11] (fun v i wr => ∃ (k r : Nat) (ra : Option Addr) (rc : Nat), k ≤ m ∧ i = .int .i64 k ∧ v = .slice ra r rc ∧ Kp ((sideN (ptAt L) O k).length = r) ∧ Kp (wr.ownsRow B 3 1 (.slice ra r rc) r (ints ((sideN (ptAt L) O k).reverse.map Int.ofNat))) ∧ Kp (Below B wo wr)) (fun _ i _ => m - (intOf i).toNat)
  case atStart => exact ⟨0, 0, none, 0, Nat.zero_le _, rfl, rfl, ⟨by rw [sideN_zero]; rfl⟩, ⟨by rw [sideN_zero]; exact World.ownsRow_nil _ _ _ _⟩, ⟨Below.refl _ _⟩⟩
  case round =>
    obtain ⟨k, r, ra, rc, hk, rfl, rfl, HR, HOW, HBL⟩ := hrel
    by_cases hlt : k < m
    · have hrk : r ≤ k := by rw [← HR.out]; exact sideN_len _ _ _
      obtain ⟨ob, oo, rfl, ck⟩ := nat_cell HO.out HM.out k hlt
      have ck' : wr.cell? ⟨ob, oo + k, none⟩ = some (.int .i64 ((O.getD k 0 : Nat) : Int)) := by
        rw [← ck]
        exact HBL.out.cell (p := ⟨ob, oo + k, none⟩) (by rw [HB.out]; exact World.block_lt_of_cell? wo _ ck)
      have HMEM := Kp.mk (sideN_mem (ptAt L) O k)
      have HSU := Kp.mk (sideN_succ (ptAt L) O k (by rw [HM.out]; exact hlt))
      have hcn := HOL.out (O.getD k 0) (by rw [getD_at _ _ (by rw [HM.out]; exact hlt)]; exact List.getElem_mem _)
      clear ck
      generalize O.getD k 0 = c at *
      generalize sideN (ptAt L) O k = S0 at *
      have HRS := Kp.mk (show S0.length = r ∧ ∀ x ∈ S0, x < n from ⟨HR.out, fun x hx => HOL.out x (HMEM.out x hx)⟩)
      clear HR HMEM
      go_wp2
      obtain ⟨w2, rfl⟩ : ∃ w2 : World, w2 = wr := ⟨_, rfl⟩
      go_loopw [5, 8] (fun v i wr => ∃ (r' : Nat) (ra' : Option Addr) (rc' : Nat) (S : List Nat), i = .int .i64 r' ∧ v = .slice ra' r' rc' ∧ r' ≤ k ∧ Kp (S.length = r' ∧ (∀ x ∈ S, x < n) ∧ popL (ptAt L) c S = popL (ptAt L) c S0) ∧ Kp (wr.ownsRow B 3 1 (.slice ra' r' rc') r' (ints (S.reverse.map Int.ofNat))) ∧ Kp (Below B wo wr)) (fun _ i _ => (intOf i).toNat)
      case atStart => exact ⟨r, ra, rc, S0, rfl, rfl, hrk, ⟨HRS.out.1, HRS.out.2, rfl⟩, HOW, HBL⟩
      case round =>
        obtain ⟨r', ra', rc', S, rfl, rfl, hrk', HS, HOW', HBL'⟩ := hrel
        by_cases hr2 : 1 < r'
        · obtain ⟨b, a2, R, rfl⟩ : ∃ b a2 R, S = b :: a2 :: R := by
            match S, HS.out.1 with
            | b :: a2 :: R, _ => exact ⟨b, a2, R, rfl⟩
            | [b], e => simp at e; omega
            | [], e => simp at e; omega
          obtain ⟨g, rfl, hg1, hg2⟩ := own_some HOW'.out (by omega)
          have hRl : R.length + 2 = r' := by have := HS.out.1; simpa using this
          have hrl : (b :: a2 :: R).reverse.length = r' := by rw [List.length_reverse]; exact HS.out.1
          have cb := nat_at HOW'.out hrl (r' - 1) (by omega)
          have ca := nat_at HOW'.out hrl (r' - 2) (by omega)
          have eb : (b :: a2 :: R).reverse.getD (r' - 1) 0 = b := by
            rw [getD_at _ _ (by rw [hrl]; omega), List.getElem_reverse]
            simp only [List.length_cons, show R.length + 1 + 1 - 1 - (r' - 1) = 0 by omega, List.getElem_cons_zero]
          have ea : (b :: a2 :: R).reverse.getD (r' - 2) 0 = a2 := by
            rw [getD_at _ _ (by rw [hrl]; omega), List.getElem_reverse]
            simp only [List.length_cons, show R.length + 1 + 1 - 1 - (r' - 2) = 1 by omega, List.getElem_cons_succ, List.getElem_cons_zero]
          rw [eb] at cb
          rw [ea] at ca
          have hbn : b < n := HS.out.2.1 b (by simp)
          have han : a2 < n := HS.out.2.1 a2 (by simp)
          have HP := Kp.mk (SlF.below H.out (by rw [← HB.out]; exact HBL'.out))
          obtain ⟨pb, po, rfl, x0, x1, x2⟩ := pt_cells HP.out b hbn
          obtain ⟨_, _, e1, y0, y1, y2⟩ := pt_cells HP.out a2 han
          simp only [Option.some.injEq, Addr.mk.injEq, and_true] at e1
          obtain ⟨rfl, rfl⟩ := e1
          obtain ⟨_, _, e1, z0, z1, z2⟩ := pt_cells HP.out c hcn
          simp only [Option.some.injEq, Addr.mk.injEq, and_true] at e1
          obtain ⟨rfl, rfl⟩ := e1
          have CT := Kp.mk (fun W => hturn_any (L.getD a2 pt0) (L.getD b pt0) (L.getD c pt0) W (HNr.out _ han) (HNr.out _ hbn) (HNr.out _ hcn))
          have HPD := Kp.mk (pop_drop (g := ptAt L) (c := c) (b := b) (a := a2) (r := R))
          have HPK := Kp.mk (pop_keep (g := ptAt L) (c := c) (b := b) (a := a2) (r := R))
          unfold ptAt at HPD HPK
          generalize L.getD a2 pt0 = pa at *
          generalize L.getD b pt0 = pb' at *
          generalize L.getD c pt0 = pc at *
          have u0 := later_cell x0
          have u1 := later_cell x1
          have u2 := later_cell x2
          have v0 := later_cell y0
          have v1 := later_cell y1
          have v2 := later_cell y2
          have t0 := later_cell z0
          have t1 := later_cell z1
          have t2 := later_cell z2
          have lb := later_cell cb
          have la := later_cell ca
          have hgt : decide ((1 : Int) < r') = true := decide_eq_true (by omega)
          clear eb ea hrl x0 x1 x2 y0 y1 y2 z0 z1 z2 cb ca
          obtain ⟨T, hT⟩ : ∃ T, T = turnP pa pb' pc := ⟨_, rfl⟩
          rw [← hT] at CT HPD HPK
          clear hT
          have hrc : r' ≤ rc' := by have := (own_slc HOW'.out).le; exact this
          by_cases hle : T ≤ 0
          · have tl : decide (T ≤ 0) = true := decide_eq_true hle
            have HS' := Kp.mk (show (a2 :: R).length = r' - 1 ∧ (∀ x ∈ a2 :: R, x < n) ∧ popL (fun i => L.getD i pt0) c (a2 :: R) = popL (fun i => L.getD i pt0) c S0 from ⟨by simp; omega, fun x hx => HS.out.2.1 x (List.mem_cons_of_mem _ hx), by rw [← HPD.out hle]; exact HS.out.2.2⟩)
            clear HPD HPK hle
            go_wp2
            refine region_later (by kernel_rfl) (by kernel_rfl) ?_
            iterate 26 (go_big_quiet_step ((go_at_call 115; exact q_later (CT.out _))))
            refine wpQuiet_nil ?_
            rintro w' ⟨xl, rfl⟩
            have HOX := Kp.mk (own_below HOW'.out xl.le)
            have HBX := Kp.mk (HBL'.out.trans (xl.le.mono (by rw [HB.out]; exact HBL'.out.size)))
            have HOY := Kp.mk (own_back HOX.out (show (a2 :: R).length + 1 = r' by simp; omega))
            clear u0 u1 u2 v0 v1 v2 t0 t1 t2 lb la CT HOX
            go_wp2
            go_roundw
            case rel => exact ⟨r' - 1, some ⟨g, 0, none⟩, rc', a2 :: R, by go_num, by go_num, by omega, HS', by rw [show r' - 1 = (a2 :: R).length by simp; omega]; exact HOY, HBX⟩
            case measure => simp [intOf]; omega
          · have tl : decide (T ≤ 0) = false := decide_eq_false hle
            have HSK := Kp.mk (show c :: popL (fun i => L.getD i pt0) c S0 = c :: b :: a2 :: R from by
              have e : popL (fun i => L.getD i pt0) c (b :: a2 :: R) = popL (fun i => L.getD i pt0) c S0 := HS.out.2.2
              rw [← e, HPK.out hle])
            clear HPD HPK hle
            go_wp2
            refine region_later (by kernel_rfl) (by kernel_rfl) ?_
            iterate 26 (go_big_quiet_step ((go_at_call 115; exact q_later (CT.out _))))
            refine wpQuiet_nil ?_
            rintro w' ⟨xl, rfl⟩
            have HOX := Kp.mk (own_below HOW'.out xl.le)
            have hBx : B ≤ xl.val.heap.size := by
              have h1 := xl.le.size
              have h2 : B ≤ wr.heap.size := by rw [HB.out]; exact HBL'.out.size
              omega
            have HBX := Kp.mk (HBL'.out.trans (xl.le.mono (by rw [HB.out]; exact HBL'.out.size)))
            clear u0 u1 u2 v0 v1 v2 t0 t1 t2 lb la CT
            generalize xl.val = w5 at *
            go_wp2_with (at_builtin; refine wpList_push tInts rfl _ _ rfl B (some ⟨g, 0, none⟩) r' rc' _ rfl HOX.out 1 1 _ rfl rfl ?d1 (by decide) ?d2 (by decide) hBx ?d4)
            case d1 => simp [Value.oneCell']
            case d2 => omega
            case d4 =>
              intro ya yc w4 ho4 hb4
              have HO4 := Kp.mk (show w4.ownsRow B 3 1 (.slice ya (r' + 1) yc) (r' + 1) (ints ((sideN (ptAt L) O (k + 1)).reverse.map Int.ofNat)) from by
                rw [HSU.out]
                have e : c :: popL (ptAt L) c S0 = c :: b :: a2 :: R := HSK.out
                rw [e, List.reverse_cons, List.map_append, ints_append]; simpa [ints] using ho4)
              have HB4 := Kp.mk (HBX.out.trans hb4)
              have HL4 := Kp.mk (show (sideN (ptAt L) O (k + 1)).length = r' + 1 from by
                rw [HSU.out]
                have e : c :: popL (ptAt L) c S0 = c :: b :: a2 :: R := HSK.out
                rw [e]; simp; omega)
              clear ho4 hb4
              go_wp2
              go_roundw
              case rel => exact ⟨k + 1, r' + 1, ya, yc, by omega, by go_num, by go_num, HL4, HO4, HB4⟩
              case measure => simp [intOf]; omega
        · have hgt : decide ((1 : Int) < r') = false := decide_eq_false (by omega)
          have HSK := Kp.mk (show c :: popL (fun i => L.getD i pt0) c S0 = c :: S from by
            have e := HS.out.2.2
            rw [pop_stop _ _ S (by rw [HS.out.1]; omega)] at e
            rw [e]; rfl)
          go_wp2
          refine region_later (by kernel_rfl) (by kernel_rfl) ?_
          iterate 26 (go_big_quiet_step (fail))
          refine wpQuiet_nil ?_
          rintro w' ⟨xl, rfl⟩
          have HOX := Kp.mk (own_below HOW'.out xl.le)
          have hBx : B ≤ xl.val.heap.size := by
            have h1 := xl.le.size
            have h2 : B ≤ wr.heap.size := by rw [HB.out]; exact HBL'.out.size
            omega
          have HBX := Kp.mk (HBL'.out.trans (xl.le.mono (by rw [HB.out]; exact HBL'.out.size)))
          generalize xl.val = w5 at *
          go_wp2_with (at_builtin; refine wpList_push tInts rfl _ _ rfl B ra' r' rc' _ rfl HOX.out 1 1 _ rfl rfl ?d1 (by decide) ?d2 (by decide) hBx ?d4)
          case d1 => simp [Value.oneCell']
          case d2 => omega
          case d4 =>
            intro ya yc w4 ho4 hb4
            have HO4 := Kp.mk (show w4.ownsRow B 3 1 (.slice ya (r' + 1) yc) (r' + 1) (ints ((sideN (ptAt L) O (k + 1)).reverse.map Int.ofNat)) from by
              rw [HSU.out]
              have e : c :: popL (ptAt L) c S0 = c :: S := HSK.out
              rw [e, List.reverse_cons, List.map_append, ints_append]; simpa [ints] using ho4)
            have HB4 := Kp.mk (HBX.out.trans hb4)
            have HL4 := Kp.mk (show (sideN (ptAt L) O (k + 1)).length = r' + 1 from by
              rw [HSU.out]
              have e : c :: popL (ptAt L) c S0 = c :: S := HSK.out
              rw [e, List.length_cons, HS.out.1])
            clear ho4 hb4
            go_wp2
            go_roundw
            case rel => exact ⟨k + 1, r' + 1, ya, yc, by omega, by go_num, by go_num, HL4, HO4, HB4⟩
            case measure => simp [intOf]; omega
    · obtain rfl : k = m := by omega
      have e : sideN (ptAt L) O k = sideS (ptAt L) [] O := by rw [← HM.out]; exact sideN_all _ _
      have HR2 := Kp.mk (show (sideS (ptAt L) [] O).length = r from by rw [← e]; exact HR.out)
      have HO2 := Kp.mk (show wr.ownsRow wo.heap.size 3 1 (.slice ra r rc) r (ints ((sideS (ptAt L) [] O).reverse.map Int.ofNat)) from by rw [← e, ← HB.out]; exact HOW.out)
      have HB2 := Kp.mk (show Below wo.heap.size wo wr from by rw [← HB.out]; exact HBL.out)
      clear e
      go_wp2
      go_ret
      exact ⟨ra, r, rc, rfl, HR2, HO2, HB2⟩

end Go.Proofs.YtedchegejalolaaGreatDoor

/- A comparison of two places by x, y and place: the walk of the closure. -/
namespace Go.Proofs.YtedchegejalolaaGreatDoor
set_option linter.unusedVariables false
open Go.RowKit Go.Sort

set_option maxRecDepth 100000 in
set_option maxHeartbeats 2000000 in
theorem hullOrd_any (bs : Nat) (a : Option Addr) (cap n x y : Nat) (L : List Pt) (w : World) (h : SlF ptL 3 w a n cap L) (hn : n ≤ 1000) (hb : w.cell? ⟨bs, 0, none⟩ = some (.slice a n cap)) (hx : x < n) (hy : y < n) :
    Calls Tryz.prog 87 #[.int .i64 x, .int .i64 y, .pointer (some ⟨bs, 0, none⟩)] w fun e w' => e = .returned (.int .i64 (cmpP L x y)) ∧ ∃ q os, w' = grow (w.drewN q) os := by
  have hl := h.len ptL_len (by omega)
  obtain ⟨b, off, rfl, hbw, cx⟩ := h.at ptL_len (by omega) x (by omega)
  obtain ⟨_, _, e1, _, cy⟩ := h.at ptL_len (by omega) y (by omega)
  simp only [Option.some.injEq, Addr.mk.injEq, and_true] at e1
  obtain ⟨rfl, rfl⟩ := e1
  rw [← getD_at L pt0 (by omega)] at cx cy
  have HP := Kp.mk (show cmpP L x y = or3 (cmpI (L.getD x pt0).x (L.getD y pt0).x) (cmpI (L.getD x pt0).y (L.getD y pt0).y) (cmpI x y) from rfl)
  generalize L.getD x pt0 = p at *
  generalize L.getD y pt0 = q at *
  have x0 : w.cell? ⟨b, off + x * 3, none⟩ = some (.int .i64 p.x) := cx 0 (by omega)
  have x1 : w.cell? ⟨b, off + x * 3 + 1, none⟩ = some (.int .i64 p.y) := cx 1 (by omega)
  have y0 : w.cell? ⟨b, off + y * 3, none⟩ = some (.int .i64 q.x) := cy 0 (by omega)
  have y1 : w.cell? ⟨b, off + y * 3 + 1, none⟩ = some (.int .i64 q.y) := cy 1 (by omega)
  have C1 := Kp.mk (fun W => q_eq (compare_any p.x q.x W))
  have C2 := Kp.mk (fun W => q_eq (compare_any p.y q.y W))
  have C3 := Kp.mk (fun W => q_eq (compare_any (x : Int) (y : Int) W))
  rw [HP.out]
  clear h cx cy HP hl
  generalize cmpI p.x q.x = c1 at *
  generalize cmpI p.y q.y = c2 at *
  generalize cmpI (x : Int) (y : Int) = c3 at *
  go_enter Tryz.func87, Tryz.ntmps87
  go_wp2
  go_still_tail 25, (by kernel_rfl)
  still_call (C1.out _)
  repeat still_step
  still_call (C2.out _)
  repeat still_step
  still_call (C3.out _)
  try refine wpStill_nil ?_
  have bx := Box.new w.drew #[.int .i64 c1, .int .i64 c2, .int .i64 c3] 3
  have CO := Kp.mk (or3_any w.heap.size c1 c2 c3 (w.drew.alloc (.cells #[.int .i64 c1, .int .i64 c2, .int .i64 c3] 3)) (bx.cell 0 rfl) (bx.cell 1 rfl) (bx.cell 2 rfl))
  clear bx
  go_wp2_with fail
  refine CO.out.mono ?_
  rintro e w' ⟨rfl, rfl⟩
  go_wp2
  go_ret
  exact ⟨rfl, 1, #[.cells #[.int .i64 c1, .int .i64 c2, .int .i64 c3] 3], by rw [alloc_eq_grow, drew_grow]; rfl⟩

end Go.Proofs.YtedchegejalolaaGreatDoor

/- Rows of the first numbers. -/
namespace Go.Proofs.YtedchegejalolaaGreatDoor
set_option linter.unusedVariables false
open Go.RowKit

theorem ints_range_succ (k : Nat) : ints ((List.range (k + 1)).map Int.ofNat) = ints ((List.range k).map Int.ofNat) ++ [.int .i64 (k : Int)] := by
  rw [List.range_succ, List.map_append, ints_append]; rfl
end Go.Proofs.YtedchegejalolaaGreatDoor


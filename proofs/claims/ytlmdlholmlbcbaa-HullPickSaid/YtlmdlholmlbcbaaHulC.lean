/- Places of a row, one behind the other at one place taken out: slices.CompactFunc by a test that reads the points. -/
import Derived.Test.YtlmdlholmlbcbaaHulP
import Derived.Test.YtlmdlholmlbcbaaPts
import Derived.Test.YtlmdlholmlbcbaaDel
import Derived.Test.YtlmdlholmlbcbaaNatR
import Derived.Lib.SliceRun
namespace Go.Proofs.Ytlmdlholmlbcbaa
set_option linter.unusedVariables false
open Go.RowKit

/-- Two points at one place. -/
def sameP (p q : Pt) : Bool := p.x == q.x && p.y == q.y
theorem sameP_iff (p q : Pt) : sameP p q = true ↔ p.x = q.x ∧ p.y = q.y := by unfold sameP; simp
/-- Those of the first k that are kept. -/
def kept (g : Nat → Pt) (O : List Nat) : Nat → List Nat
  | 0 => []
  | k + 1 => if k ≠ 0 ∧ sameP (g (O.getD k 0)) (g (O.getD (k - 1) 0)) = true then kept g O k else kept g O k ++ [O.getD k 0]
theorem kept_skip {g : Nat → Pt} {O : List Nat} {k : Nat} (h0 : 0 < k) (h : sameP (g (O.getD k 0)) (g (O.getD (k - 1) 0)) = true) : kept g O (k + 1) = kept g O k := by
  rw [kept, if_pos ⟨by omega, h⟩]
theorem kept_take {g : Nat → Pt} {O : List Nat} {k : Nat} (h : k = 0 ∨ sameP (g (O.getD k 0)) (g (O.getD (k - 1) 0)) = false) : kept g O (k + 1) = kept g O k ++ [O.getD k 0] := by
  rw [kept, if_neg (by rintro ⟨h1, h2⟩; rcases h with h | h <;> simp_all)]
theorem kept_len (g : Nat → Pt) (O : List Nat) : ∀ k, (kept g O k).length ≤ k := by
  intro k
  induction k with
  | zero => simp [kept]
  | succ k ih =>
    rw [kept]; split
    · omega
    · rw [List.length_append]; simp; omega
theorem kept_pos (g : Nat → Pt) (O : List Nat) : ∀ k, 0 < k → 0 < (kept g O k).length := by
  intro k
  induction k with
  | zero => intro h; omega
  | succ k ih =>
    intro _
    by_cases h0 : k = 0
    · subst h0; rw [kept_take (.inl rfl)]; simp
    · rw [kept]; split
      · exact ih (by omega)
      · simp
theorem kept_mem (g : Nat → Pt) (O : List Nat) : ∀ k, k ≤ O.length → ∀ x ∈ kept g O k, ∃ i, i < k ∧ O.getD i 0 = x := by
  intro k
  induction k with
  | zero => intro _ x h; simp [kept] at h
  | succ k ih =>
    intro hk x h
    rw [kept] at h
    split at h
    · obtain ⟨i, h1, h2⟩ := ih (by omega) x h; exact ⟨i, by omega, h2⟩
    · rcases List.mem_append.1 h with h | h
      · obtain ⟨i, h1, h2⟩ := ih (by omega) x h; exact ⟨i, by omega, h2⟩
      · exact ⟨k, by omega, (List.mem_singleton.1 h).symm⟩
/-- Of each place one is kept. -/
theorem kept_all (g : Nat → Pt) (O : List Nat) : ∀ k, ∀ i, i < k → ∃ x ∈ kept g O k, (g x).x = (g (O.getD i 0)).x ∧ (g x).y = (g (O.getD i 0)).y := by
  intro k
  induction k with
  | zero => intro i h; omega
  | succ k ih =>
    intro i hi
    by_cases hc : k ≠ 0 ∧ sameP (g (O.getD k 0)) (g (O.getD (k - 1) 0)) = true
    · rw [kept, if_pos hc]
      by_cases hik : i = k
      · subst hik
        obtain ⟨x, hx, h1, h2⟩ := ih (i - 1) (by omega)
        obtain ⟨e1, e2⟩ := (sameP_iff _ _).1 hc.2
        exact ⟨x, hx, by rw [h1, e1], by rw [h2, e2]⟩
      · exact ih i (by omega)
    · rw [kept, if_neg hc]
      by_cases hik : i = k
      · subst hik; exact ⟨_, by simp, rfl, rfl⟩
      · obtain ⟨x, hx, h⟩ := ih i (by omega); exact ⟨x, List.mem_append_left _ hx, h⟩
/-- Those that are kept of an order stand one ahead of the other. -/
theorem kept_up {g : Nat → Pt} {O : List Nat} (h : ∀ i j, i < j → j < O.length → lx0 (g (O.getD i 0)) (g (O.getD j 0))) : ∀ k, k ≤ O.length → (kept g O k).Pairwise (fun a b => lx (g a) (g b)) := by
  intro k
  induction k with
  | zero => intro _; simp [kept]
  | succ k ih =>
    intro hk
    by_cases hc : k ≠ 0 ∧ sameP (g (O.getD k 0)) (g (O.getD (k - 1) 0)) = true
    · rw [kept, if_pos hc]; exact ih (by omega)
    · rw [kept, if_neg hc]
      refine List.pairwise_append.2 ⟨ih (by omega), List.pairwise_singleton _ _, fun a ha b hb => ?_⟩
      rw [List.mem_singleton.1 hb]
      obtain ⟨i, hi, rfl⟩ := kept_mem g O k (by omega) a ha
      have h1 : lx0 (g (O.getD i 0)) (g (O.getD (k - 1) 0)) := by
        by_cases e : i = k - 1
        · rw [e]; exact lx0_refl _
        · exact h i (k - 1) (by omega) (by omega)
      have h2 := h (k - 1) k (by omega) (by omega)
      have h3 : ¬ ((g (O.getD k 0)).x = (g (O.getD (k - 1) 0)).x ∧ (g (O.getD k 0)).y = (g (O.getD (k - 1) 0)).y) := fun e => hc ⟨by omega, (sameP_iff _ _).2 e⟩
      unfold lx0 at h1 h2
      unfold lx
      omega
attribute [irreducible] kept sameP

/-- The test of two places of the row. -/
def SameT (g : FuncId) (cb : Array Value) (L : Nat → Pt) (W : World) (m : Nat) : Prop := ∀ q x y, x < m → y < m → Calls Try.prog g (#[.int .i64 (x : Nat), .int .i64 (y : Nat)] ++ cb) (W.drewN q) fun e w' => e = .returned (.bool (sameP (L x) (L y))) ∧ ∃ q', w' = W.drewN q'

/-- The row behind the step of the second loop. -/
structure CInv (L : Nat → Pt) (O X : List Nat) (j kk : Nat) : Prop where
  len : X.length = O.length
  kl : (kept L O j).length = kk
  low : X.take kk = kept L O j
  high : ∀ i, j ≤ i + 1 → X.getD i 0 = O.getD i 0
  lt : kk < j
theorem CInv.start {L : Nat → Pt} {O : List Nat} {k : Nat} (h : kept L O k = O.take k) (hk : k < O.length) (h0 : 0 < k) (hs : sameP (L (O.getD k 0)) (L (O.getD (k - 1) 0)) = true) : CInv L O O (k + 1) k :=
  ⟨rfl, by rw [kept_skip h0 hs, h, List.length_take]; omega, by rw [kept_skip h0 hs, h], fun _ _ => rfl, by omega⟩
theorem CInv.skip {L : Nat → Pt} {O X : List Nat} {j kk : Nat} (h : CInv L O X j kk) (hs : sameP (L (O.getD j 0)) (L (O.getD (j - 1) 0)) = true) : CInv L O X (j + 1) kk := by
  have e := kept_skip (g := L) (O := O) (k := j) (by have := h.lt; omega) hs
  exact ⟨h.len, by rw [e]; exact h.kl, by rw [e]; exact h.low, fun i hi => h.high i (by omega), by have := h.lt; omega⟩
theorem CInv.put {L : Nat → Pt} {O X : List Nat} {j kk : Nat} (h : CInv L O X j kk) (hj : j < O.length) (hs : sameP (L (O.getD j 0)) (L (O.getD (j - 1) 0)) = false) : CInv L O (X.set kk (O.getD j 0)) (j + 1) (kk + 1) := by
  have e := kept_take (g := L) (O := O) (k := j) (.inr hs)
  have hlt := h.lt
  have hl := h.len
  refine ⟨by rw [List.length_set]; exact hl, by rw [e, List.length_append, h.kl]; rfl, ?_, fun i hi => ?_, by omega⟩
  · rw [e, ← h.low, List.take_succ_eq_append_getElem (by rw [List.length_set]; omega), List.getElem_set_self]
    congr 1
    apply List.ext_getElem
    · simp
    · intro i h1 h2
      simp only [List.length_take, List.length_set] at h1
      rw [List.getElem_take, List.getElem_take, List.getElem_set_ne (by omega)]
  · rw [← h.high i (by omega)]
    simp [List.getD, List.getElem?_set_ne (show kk ≠ i by omega)]
theorem kept_same {L : Nat → Pt} {O : List Nat} {k : Nat} (h : kept L O k = O.take k) (hk : k < O.length) (hs : k = 0 ∨ sameP (L (O.getD k 0)) (L (O.getD (k - 1) 0)) = false) : kept L O (k + 1) = O.take (k + 1) := by
  rw [kept_take hs, h, List.take_succ_eq_append_getElem hk, getD_at _ _ hk]
theorem cells_drew {w : World} {n : Nat} {a : Option Addr} {cap : Nat} {l : List Int} (h : SlI w a cap l) : SlI (w.drewN n) a cap l := SlI.below h (drewN_below n)

set_option maxRecDepth 100000 in
set_option maxHeartbeats 4000000 in
theorem compact_any (f : FuncId) (cb : Array Value) (eg : ∀ args w, (callFunc f args).run Try.prog w = .ok (.enter f args) w) (L : Nat → Pt) (m B g c n : Nat) (O : List Nat) (w : World)
    (h : w.ownsRow B 3 1 (.slice (some ⟨g, 0, none⟩) n c) n (ints (O.map Int.ofNat))) (hl : O.length = n) (h0 : 0 < n) (hn : n ≤ 100000) (hm : ∀ i, i < n → O.getD i 0 < m)
    (ht : ∀ w', w.grownBy w' (some g) → SameT f cb L w' m) (hB : B ≤ w.heap.size) :
    Calls Try.prog 90 #[.slice (some ⟨g, 0, none⟩) n c, .func (.func f) #[] cb] w fun e w' => ∃ r, e = .returned (.slice (some ⟨g, 0, none⟩) r c) ∧ Kp ((kept L O n).length = r) ∧ Kp (w'.ownsRow B 3 1 (.slice (some ⟨g, 0, none⟩) r c) r (ints ((kept L O n).map Int.ofNat))) ∧ Kp (w.grownBy w' (some g)) := by
  have H := Kp.mk h
  have HL := Kp.mk hl
  have HM := Kp.mk hm
  have HT := Kp.mk ht
  have hnc : n ≤ c := by have := (own_slc h).le; exact this
  have k1 := Kp.mk (kept_same (L := L) (O := O) (k := 0) (by unfold kept; simp) (by omega) (.inl rfl))
  clear h hl hm ht
  by_cases h2 : n < 2
  · obtain rfl : n = 1 := by omega
    go_enter Try.func90, Try.ntmps90
    go_wp2
    go_ret
    have e : kept L O 1 = O := by rw [k1.out]; exact List.take_of_length_le (by rw [HL.out]; omega)
    exact ⟨1, rfl, ⟨by rw [e]; exact HL.out⟩, ⟨by rw [e]; exact H.out⟩, ⟨grown_refl _ _⟩⟩
  · go_enter Try.func90, Try.ntmps90
    obtain ⟨wo, rfl⟩ : ∃ wo : World, wo = w := ⟨_, rfl⟩
    go_wp2
    go_loopw [5] (fun i wr => ∃ (k : Nat), 1 ≤ k ∧ k ≤ n ∧ i = .int .i64 k ∧ Kp (wr.ownsRow B 3 1 (.slice (some ⟨g, 0, none⟩) n c) n (ints (O.map Int.ofNat))) ∧ Kp (wo.grownBy wr (some g)) ∧ Kp (kept L O k = O.take k)) (fun i _ => n - (intOf i).toNat)
    case atStart => exact ⟨1, Nat.le_refl _, by omega, rfl, H, ⟨grown_refl _ _⟩, k1⟩
    case round =>
      obtain ⟨k, hk1, hk, rfl, HO1, HG1, HK⟩ := hrel
      by_cases hlt : k < n
      · have c1 := nat_at HO1.out HL.out k hlt
        have c0 := nat_at HO1.out HL.out (k - 1) (by omega)
        have CT := Kp.mk (HT.out wr HG1.out)
        unfold SameT at CT
        have CT2 := Kp.mk (fun q' => CT.out q' (O.getD k 0) (O.getD (k - 1) 0) (HM.out k hlt) (HM.out (k - 1) (by omega)))
        obtain ⟨b, hb⟩ : ∃ b, b = sameP (L (O.getD k 0)) (L (O.getD (k - 1) 0)) := ⟨_, rfl⟩
        have HBB := Kp.mk hb
        rw [← hb] at CT2
        clear CT hb
        obtain ⟨x, hx⟩ : ∃ x, x = O.getD k 0 := ⟨_, rfl⟩
        obtain ⟨y, hy⟩ : ∃ y, y = O.getD (k - 1) 0 := ⟨_, rfl⟩
        rw [← hx] at c1 CT2
        rw [← hy] at c0 CT2
        have HX := Kp.mk hx
        have HY := Kp.mk hy
        clear hx hy
        cases b with
        | true =>
          go_wp2_with fail
          go_quiet ((go_at_fn f; exact CT2.out _))
          go_wp2
          clear c0 c1 CT2
          have HO2 := Kp.mk (own_below HO1.out (drewN_below nq))
          have HG2 := Kp.mk (grown_trans HG1.out (grown_of_below (r := some g) (drewN_below (B := wr.heap.size) nq)))
          generalize wr.drewN nq = ws at *
          go_loopw [5, 7] (fun i j wr => ∃ (kk k2 : Nat) (X : List Nat), i = .int .i64 kk ∧ j = .int .i64 k2 ∧ 1 ≤ k2 ∧ k + k2 ≤ n ∧ Kp (CInv L O X (k + k2) kk) ∧ Kp (wr.ownsRow B 3 1 (.slice (some ⟨g, 0, none⟩) n c) n (ints (X.map Int.ofNat))) ∧ Kp (wo.grownBy wr (some g))) (fun _ j _ => n - (intOf j).toNat)
          case atStart => exact ⟨k, 1, O, rfl, rfl, Nat.le_refl _, by omega, ⟨CInv.start HK.out (by rw [HL.out]; exact hlt) hk1 HBB.out.symm⟩, HO2, HG2⟩
          case round =>
            obtain ⟨kk, k2, X, rfl, rfl, hk2, hkk2, HI, HO, HG⟩ := hrel
            have hkk := HI.out.lt
            have hXl := HI.out.len
            rw [HL.out] at hXl
            have hpos : 0 < kk := by rw [← HI.out.kl]; exact kept_pos _ _ _ (by omega)
            by_cases hlt2 : k + k2 < n
            · have cm := nat_at HO.out hXl (k + k2) hlt2
              have cp := nat_at HO.out hXl (k + k2 - 1) (by omega)
              have ck := nat_at HO.out hXl kk (by omega)
              have fk := HO.out.frozenAt kk
              rw [HI.out.high (k + k2) (by omega)] at cm
              rw [HI.out.high (k + k2 - 1) (by omega)] at cp
              have ep : k + k2 - 1 = k + (k2 - 1) := by omega
              have CT := Kp.mk (HT.out wr HG.out)
              unfold SameT at CT
              have CT2 := Kp.mk (fun q' => CT.out q' (O.getD (k + k2) 0) (O.getD (k + k2 - 1) 0) (HM.out _ hlt2) (HM.out _ (by omega)))
              obtain ⟨b, hb⟩ : ∃ b, b = sameP (L (O.getD (k + k2) 0)) (L (O.getD (k + k2 - 1) 0)) := ⟨_, rfl⟩
              have HB2 := Kp.mk hb
              rw [← hb] at CT2
              clear CT hb
              obtain ⟨u, hu⟩ : ∃ u, u = O.getD (k + k2) 0 := ⟨_, rfl⟩
              obtain ⟨v, hv⟩ : ∃ v, v = O.getD (k + k2 - 1) 0 := ⟨_, rfl⟩
              have HPUT := Kp.mk (HI.out.put (by rw [HL.out]; exact hlt2))
              rw [← hu] at cm CT2 HPUT
              rw [← hv] at cp CT2
              rw [ep] at cp
              have HU := Kp.mk hu
              have HV := Kp.mk hv
              clear hu hv ep hXl
              generalize X.getD kk 0 = old at ck
              cases b with
              | true =>
                go_wp2_with fail
                go_quiet ((go_at_fn f; exact CT2.out _))
                go_wp2
                go_roundw
                case rel => exact ⟨kk, k2 + 1, X, rfl, by go_num, by omega, by omega, ⟨HI.out.skip HB2.out.symm⟩, ⟨own_below HO.out (drewN_below _)⟩, ⟨grown_trans HG.out (grown_of_below (drewN_below _))⟩⟩
                case measure => simp [intOf]; omega
              | false =>
                go_wp2_with fail
                go_quiet ((go_at_fn f; exact CT2.out _))
                have cm' : (wr.drewN nq).cell? ⟨g, k + k2, none⟩ = some (.int .i64 (u : Int)) := cm
                have ck' : (wr.drewN nq).cell? ⟨g, kk, none⟩ = some (.int .i64 (old : Int)) := ck
                have fk' : (wr.drewN nq).frozen? ⟨g, kk, none⟩ = false := fk
                have HN := Kp.mk (show ((wr.drewN nq).setCell ⟨g, kk, none⟩ (.int .i64 (u : Int))).ownsRow B 3 1 (.slice (some ⟨g, 0, none⟩) n c) n (ints ((X.set kk u).map Int.ofNat)) from by
                  rw [← natrow_set]
                  exact ((own_below HO.out (drewN_below nq)).stored kk (.int .i64 (u : Int))).1)
                have HGN := Kp.mk (show wo.grownBy ((wr.drewN nq).setCell ⟨g, kk, none⟩ (.int .i64 (u : Int))) (some g) from grown_trans (grown_trans HG.out (grown_of_below (drewN_below nq))) (grown_set _ g kk _))
                go_wp2
                go_roundw
                case rel => exact ⟨kk + 1, k2 + 1, _, by go_num, by go_num, by omega, by omega, ⟨HPUT.out (by rw [HU.out]; exact HB2.out.symm)⟩, by simpa using HN, by simpa using HGN⟩
                case measure => simp [intOf]; omega
            · have hend : k + k2 = n := by omega
              have hcl : ∀ ty, (Builtin.clear_ #[22] ty #[.slice (some ⟨g, kk, none⟩) (n - kk) (c - kk)]).run Try.prog wr = .ok (.tuple #[]) (wr.setCells g kk (List.replicate (n - kk) (.int .i64 0))) :=
                fun ty => Lib.run_clear_slice wr 22 3 ty (.int .i64 0) Try.underlying22 (fun w => by kernel_rfl) rfl rfl g kk (n - kk) (c - kk) (by omega) (fun j hj => by rw [nat_at HO.out hXl (kk + j) (by omega)]; rfl) (fun j hj => HO.out.frozenAt (kk + j))
              have HS := own_setCells (List.replicate (n - kk) (.int .i64 0)) kk wr _ HO.out (by rw [List.length_replicate]; omega)
              have HF := Kp.mk (own_front HS.1 (show kk ≤ n by omega))
              have HG2 := Kp.mk (grown_trans HG.out HS.2)
              clear HS
              have hkc : kk ≤ c := by omega
              go_wp2
              go_ret
              have e : kept L O n = X.take kk := by rw [← hend]; exact HI.out.low.symm
              refine ⟨kk, rfl, ⟨by rw [← hend]; exact HI.out.kl⟩, ⟨?_⟩, HG2⟩
              rw [e, List.map_take]
              have := HF.out
              rw [List.append_assoc, List.take_append_of_le_length (by rw [List.length_take, ints_length, List.length_map, hXl]; omega), List.take_take, Nat.min_self] at this
              simpa [ints] using this
        | false =>
          go_wp2_with fail
          go_quiet ((go_at_fn f; exact CT2.out _))
          go_wp2
          go_roundw
          case rel => exact ⟨k + 1, by omega, by omega, by go_num, ⟨own_below HO1.out (drewN_below _)⟩, ⟨grown_trans HG1.out (grown_of_below (drewN_below _))⟩, ⟨kept_same HK.out (by rw [HL.out]; exact hlt) (.inr HBB.out.symm)⟩⟩
          case measure => simp [intOf]; omega
      · obtain rfl : k = n := by omega
        go_wp2
        go_ret
        have e : kept L O k = O := by rw [HK.out]; exact List.take_of_length_le (by rw [HL.out]; omega)
        exact ⟨k, rfl, ⟨by rw [e]; exact HL.out⟩, ⟨by rw [e]; exact HO1.out⟩, HG1⟩

end Go.Proofs.Ytlmdlholmlbcbaa

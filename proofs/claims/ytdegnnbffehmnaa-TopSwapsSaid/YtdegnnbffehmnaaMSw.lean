import Derived.Test.YtdegnnbffehmnaaMPe
import Derived.Test.YtdegnnbffehmnaaFenP
import Derived.Test.YtdegnnbffehmnaaMPo
import Derived.Test.YtdegnnbffehmnaaUnd
import Derived.Test.YtdegnnbffehmnaaSort
import Derived.Test.YtdegnnbffehmnaaFen
import Derived.Test.YtdegnnbffehmnaaMWv
import Derived.Test.YtdegnnbffehmnaaTopC
/- Three counts of the pairs that stand the wrong way round. -/
namespace Go.Proofs.Ytdegnnbffehmnaa
set_option linter.unusedVariables false
open Go.RowKit

/-- The first: of each those that stand behind it and are below it. -/
theorem inv_drop (p : List Int) (i : Nat) (h : i < p.length) : inv (p.drop i) = low (p.getD i 0) (p.drop (i + 1)) + inv (p.drop (i + 1)) := by
  rw [List.drop_eq_getElem_cons h, inv, getD_at _ _ h]
theorem below_low (p : List Int) (N : List Nat) (hN : p = N.map Int.ofNat) (i n : Nat) (hn : p.length = n) : cntBelow (sg N (i + 1) n) (N.getD i 0) = low (p.getD i 0) (p.drop (i + 1)) := by
  have e1 : sg N (i + 1) n = N.drop (i + 1) := by
    unfold sg
    rw [List.take_of_length_le (by rw [← hn, hN, List.length_map]; exact Nat.le_refl _)]
  have e2 : p.getD i 0 = ((N.getD i 0 : Nat) : Int) := by
    rw [hN, List.getD_eq_getElem?_getD, List.getD_eq_getElem?_getD, List.getElem?_map]
    cases N[i]? <;> rfl
  rw [e1, e2, hN, ← List.map_drop]
  unfold cntBelow low
  rw [List.countP_map]
  congr 1
  funext y
  show decide (y < N.getD i 0) = decide (((y : Nat) : Int) < ((N.getD i 0 : Nat) : Int))
  exact decide_eq_decide.2 (by omega)

/-- How often each number has come. -/
def cameL (l : List Int) (n : Nat) : List Int := (List.range n).map fun v => (l.count ((v : Nat) : Int) : Int)
theorem cameL_length (l : List Int) (n : Nat) : (cameL l n).length = n := by simp [cameL]
theorem cameL_get (l : List Int) (n v : Nat) (h : v < (cameL l n).length) : (cameL l n)[v] = (l.count ((v : Nat) : Int) : Int) := by simp [cameL]
theorem cameL_nil (n : Nat) : cameL [] n = List.replicate n 0 := by
  apply List.ext_getElem
  · simp [cameL]
  · intro i h1 h2; rw [cameL_get]; simp
theorem cameL_bd (l : List Int) (n : Nat) : ∀ x ∈ cameL l n, -(l.length : Int) ≤ x ∧ x ≤ l.length := by
  intro x hx
  unfold cameL at hx
  obtain ⟨v, _, rfl⟩ := List.mem_map.1 hx
  have := List.count_le_length (a := ((v : Nat) : Int)) (l := l)
  omega
theorem cameL_pre (l : List Int) (n : Nat) (h0 : ∀ x ∈ l, 0 ≤ x) : ∀ k, k ≤ n → pre (cameL l n) k = (low (k : Int) l : Nat)
  | 0, _ => by
    rw [pre_zero]
    have : low ((0 : Nat) : Int) l = 0 := by
      unfold low
      rw [List.countP_eq_zero]
      intro y hy
      have := h0 y hy
      simp; omega
    rw [this]; rfl
  | k + 1, hk => by
    rw [pre_succ _ _ (by rw [cameL_length]; omega), cameL_pre l n h0 k (by omega), cameL_get]
    have : low ((k + 1 : Nat) : Int) l = low (k : Int) l + l.count ((k : Nat) : Int) := by
      clear h0
      unfold low
      induction l with
      | nil => rfl
      | cons y r ih =>
        rw [List.countP_cons, List.countP_cons, List.count_cons, ih]
        have c1 : decide (y < ((k + 1 : Nat) : Int)) = (decide (y < (k : Int)) || (y == ((k : Nat) : Int))) := by
          by_cases a : y < (k : Int)
          · rw [decide_eq_true a, decide_eq_true (by omega), Bool.true_or]
          · rw [decide_eq_false a, Bool.false_or]
            by_cases c : y = (k : Int)
            · rw [decide_eq_true (by omega), beq_iff_eq.2 c]
            · rw [decide_eq_false (by omega), beq_eq_false_iff_ne.2 c]
        have c2 : ¬ (y < (k : Int) ∧ y = ((k : Nat) : Int)) := by omega
        rw [c1]
        by_cases a : y < (k : Int)
        · have c : (y == ((k : Nat) : Int)) = false := beq_eq_false_iff_ne.2 (by omega)
          rw [decide_eq_true a, c]
          simp; omega
        · rw [decide_eq_false a]
          cases (y == ((k : Nat) : Int)) <;> simp <;> omega
    omega
theorem cameL_set (l : List Int) (n x : Nat) (hx : x < n) : (cameL l n).set x ((cameL l n)[x]'(by rw [cameL_length]; exact hx) + 1) = cameL (l ++ [(x : Int)]) n := by
  apply List.ext_getElem
  · simp [cameL]
  · intro i h1 h2
    have hi : i < n := by rw [cameL_length] at h2; exact h2
    rw [List.getElem_set, cameL_get _ _ i h2, List.count_append, List.count_singleton]
    by_cases e : x = i
    · subst e
      rw [if_pos rfl, cameL_get]
      simp
    · have : (((x : Nat) : Int) == ((i : Nat) : Int)) = false := by rw [beq_eq_false_iff_ne]; omega
      rw [if_neg e, cameL_get, this]
      simp
theorem take_more (p : List Int) (i : Nat) (h : i < p.length) : p.take (i + 1) = p.take i ++ [p.getD i 0] := by
  rw [List.take_succ_eq_append_getElem h, getD_at _ _ h]
/-- The second: of each those ahead of it that are not below it. -/
theorem inv_take (p : List Int) (i : Nat) (h : i < p.length) (hd : p.Nodup) : (inv (p.take (i + 1)) : Int) = inv (p.take i) + ((i : Int) - low (p.getD i 0) (p.take i)) := by
  have hx : p.getD i 0 ∉ p.take i := by
    rw [getD_at _ _ h]
    intro hm
    obtain ⟨j, hj, e⟩ := List.mem_iff_getElem.1 hm
    rw [List.getElem_take] at e
    rw [List.length_take] at hj
    exact (List.pairwise_iff_getElem.1 hd) j i (by omega) h (by omega) e
  have hl : (p.take i).length = i := by rw [List.length_take]; omega
  rw [take_more p i h, inv_append, cross_cons, cross_nil]
  generalize p.getD i 0 = x at *
  generalize p.take i = q at *
  have e : (q.countP fun y => decide (x < y)) + low x q = q.length := by
    clear hl
    unfold low
    induction q with
    | nil => rfl
    | cons y r ih =>
      rw [List.countP_cons, List.countP_cons, List.length_cons]
      have := ih (fun hm => hx (List.mem_cons_of_mem _ hm))
      have hne : x ≠ y := fun e => hx (e ▸ List.mem_cons_self ..)
      by_cases a : x < y
      · have b : ¬ y < x := by omega
        simp [a, b]; omega
      · have b : y < x := by omega
        simp [a, b]; omega
  have z : inv [x] = 0 := by simp [inv, low]
  rw [z]
  omega

end Go.Proofs.Ytdegnnbffehmnaa

/- The third count of the pairs that stand the wrong way round. -/
namespace Go.Proofs.Ytdegnnbffehmnaa
set_option linter.unusedVariables false
open Go.RowKit

/-- The points of the third count. -/
def swPts (p : List Int) (i : Nat) : List Pt := (List.range i).map fun (k : Nat) => (⟨-(k : Int), p.getD k 0, 0⟩ : Pt)
theorem swPts_length (p : List Int) (i : Nat) : (swPts p i).length = i := by simp [swPts]
theorem swPts_succ (p : List Int) (i : Nat) : swPts p (i + 1) = swPts p i ++ [⟨-(i : Int), p.getD i 0, 0⟩] := by simp [swPts, List.range_succ]
theorem swPts_near (p : List Int) (n : Nat) (hn : n ≤ 1000) (h : ∀ i, i < n → 0 ≤ p.getD i 0 ∧ p.getD i 0 ≤ 1000) : ∀ q ∈ swPts p n, q.Near := by
  intro q hq
  unfold swPts at hq
  obtain ⟨k, hk, rfl⟩ := List.mem_map.1 hq
  have := h k (List.mem_range.1 hk)
  have := List.mem_range.1 hk
  unfold Pt.Near
  simp only
  omega
theorem swPts_getD (p : List Int) (n i : Nat) (h : i < n) : (swPts p n).getD i pt0 = ⟨-(i : Int), p.getD i 0, 0⟩ := by
  unfold swPts
  rw [List.getD_eq_getElem?_getD, List.getElem?_map, List.getElem?_range h]
  rfl
theorem countP_range_drop (P : Nat → Bool) (Q : Int → Bool) (p : List Int) : ∀ (d i : Nat), i + d = p.length → (∀ k, i ≤ k → k < p.length → P k = Q (p.getD k 0)) → (List.range' i d).countP P = (p.drop i).countP Q
  | 0, i, h, _ => by
    rw [List.drop_of_length_le (by omega)]; rfl
  | d + 1, i, h, H => by
    rw [List.range'_succ, List.countP_cons, List.drop_eq_getElem_cons (by omega : i < p.length), List.countP_cons, countP_range_drop P Q p d (i + 1) (by omega) (fun k hk => H k (by omega)), H i (Nat.le_refl _) (by omega), getD_at p 0 (by omega : i < p.length)]
theorem und_low (p : List Int) (i n : Nat) (hn : p.length = n) (h : i < n) (hd : p.Nodup) : undN (swPts p n) ((swPts p n).getD i pt0) = low (p.getD i 0) (p.drop (i + 1)) := by
  rw [swPts_getD p n i h]
  unfold undN swPts low
  rw [List.countP_map, List.range_eq_range', show n = (i + 1) + (n - (i + 1)) by omega, ← List.range'_append_1, List.countP_append]
  have z : (List.range' 0 (i + 1)).countP ((fun q => decide (Above (⟨-(i : Int), p.getD i 0, 0⟩ : Pt) q)) ∘ fun (k : Nat) => (⟨-(k : Int), p.getD k 0, 0⟩ : Pt)) = 0 := by
    rw [List.countP_eq_zero]
    intro k hk
    have hk2 : k < i + 1 := by simpa using hk
    intro hh
    have hA : Above (⟨-(i : Int), p.getD i 0, 0⟩ : Pt) (⟨-(k : Int), p.getD k 0, 0⟩ : Pt) := of_decide_eq_true hh
    unfold Above at hA
    obtain ⟨h1, h2, h3⟩ := hA
    simp only at h1 h2 h3
    have : k = i := by omega
    subst this
    omega
  rw [z, Nat.zero_add, Nat.zero_add]
  refine countP_range_drop _ _ p _ _ (by omega) ?_
  intro k hk hk2
  refine decide_eq_decide.2 ⟨?_, ?_⟩
  · intro hA
    unfold Above at hA
    obtain ⟨h1, h2, h3⟩ := hA
    simp only at h1 h2 h3
    have hne : p.getD k 0 ≠ p.getD i 0 := by
      rw [getD_at _ _ hk2, getD_at _ _ (by omega : i < p.length)]
      intro e
      exact (List.pairwise_iff_getElem.1 hd) i k (by omega) hk2 (by omega) e.symm
    omega
  · intro h1
    unfold Above
    simp only
    omega

end Go.Proofs.Ytdegnnbffehmnaa

/- TopSwaps: the walk. -/
namespace Go.Proofs.Ytdegnnbffehmnaa
set_option linter.unusedVariables false
open Go.RowKit

theorem topPoints_any (a : Option Addr) (cap n : Nat) (L : List Pt) (w : World) (h : SlF ptL 3 w a n cap L) (hn : n ≤ 10000) :
    Calls Try.prog 28 #[.slice a n cap] w fun e w' => ∃ ra rc, e = .returned (.slice ra n rc) ∧ Kp (SlF ptL 3 w' ra n rc L) ∧ Below w.heap.size w w' := by
  have H := Kp.mk h
  clear h
  go_enter Try.func28, Try.ntmps28
  go_wp2_with (at_builtin; refine wpList_cat tPts rfl _ _ rfl w.heap.size none 0 0 [] rfl (World.ownsRow_nil _ _ _ _) _ _ _ _ rfl H.out (flat_one ptL_one L) ?c1 (by decide) (Nat.le_refl _) ?c2)
  case c1 => omega
  case c2 =>
    intro sa cap' w' hown hbel
    have HS := Kp.mk (show SlF ptL 3 w' sa n cap' L from own_slc (by simpa using hown))
    clear hown
    go_wp2
    go_ret
    exact ⟨sa, cap', rfl, HS, hbel⟩

theorem tadd (l : List Int) (n x : Nat) (hx : x < n) (hn : n ≤ 300) : addT (treeOf (cameL l n)) x 1 300 = treeOf (cameL (l ++ [(x : Int)]) n) := by
  rw [addT_tree _ _ _ (by rw [cameL_length]; exact hx) (by rw [cameL_length]; exact hn), cameL_set _ _ _ hx]
theorem came_tree_bd (l : List Int) (n : Nat) (hl : l.length ≤ 60) (hn : n ≤ 300) : ∀ x ∈ treeOf (cameL l n), -1000000000000 ≤ x ∧ x ≤ 1000000000000 := by
  intro x hx
  have := tree_bd (cameL l n) 60 (by omega) (fun y hy => by have := cameL_bd l n y hy; omega) (by rw [cameL_length]; exact hn) x hx
  omega
theorem zeros_sl {w : World} {a : Option Addr} {c n : Nat} (h : SlC w a n c 1 (List.replicate n (.int .i64 0))) : SlI w a c (List.replicate n 0) := by
  unfold SlI ints
  rw [List.length_replicate, List.map_replicate]
  exact h
theorem order_nats (p : List Int) (h : Order p) : ∃ N : List Nat, p = N.map Int.ofNat ∧ ∀ y ∈ N, y < p.length := by
  refine ⟨p.map Int.toNat, ?_, ?_⟩
  · rw [List.map_map]
    conv => lhs; rw [← List.map_id p]
    refine List.map_congr_left fun x hx => ?_
    have := h.2 x hx
    show x = Int.ofNat x.toNat
    exact (Int.toNat_of_nonneg this.1).symm
  · intro y hy
    obtain ⟨x, hx, rfl⟩ := List.mem_map.1 hy
    have := h.2 x hx
    omega
theorem inv_none : inv [] = 0 := by simp [inv]
theorem low_len (x : Int) (l : List Int) : low x l ≤ l.length := by unfold low; exact List.countP_le_length
theorem nat_getD (N : List Nat) (k : Nat) : (N.map Int.ofNat).getD k 0 = ((N.getD k 0 : Nat) : Int) := by
  rw [List.getD_eq_getElem?_getD, List.getD_eq_getElem?_getD, List.getElem?_map]
  cases N[k]? <;> rfl
theorem inv_take_le (p : List Int) (k n : Nat) (hn : p.length = n) (h : n ≤ 60) : inv (p.take k) ≤ 3600 := by
  have h1 := inv_le (p.take k)
  have h2 : (p.take k).length ≤ 60 := by rw [List.length_take]; omega
  have := Nat.mul_le_mul h2 h2
  omega
attribute [local irreducible] cameL swPts

set_option maxRecDepth 100000 in
set_option maxHeartbeats 8000000 in
theorem walk_TopSwaps (a0 : Option Addr) (len0 cap0 : Nat) (z0 : List Int) (a1 : Int) (w : World) (w0 : IsRow .i64 w a0 len0 cap0 z0) (w1 : (Lit.int .i64 a1).wf = true) :
    Calls Try.prog 4 #[.slice a0 len0 cap0, .int .i64 a1] w fun e w' => e = .returned (.bool true) ∧ Below w.heap.size w w' := by
  obtain ⟨l, rfl, hl, wl, nl⟩ := row_sl w0
  obtain ⟨i1, i2⟩ := wf_bd w1
  obtain ⟨q, hq, hql⟩ := pick_nat a1 60 (by omega)
  obtain ⟨n, hn⟩ : ∃ n, n = q + 1 := ⟨_, rfl⟩
  have hn60 : n ≤ 60 := by omega
  have hn0 : 0 < n := by omega
  have HN := Kp.mk (show (1 : Int) + q = n by omega)
  have CP := Kp.mk (fun W => hq ▸ picked_any a1 60 W (by omega) (by omega) i1 i2)
  have CS := Kp.mk (shuffle_n a0 cap0 n l w hl (by unfold maxLen at nl; omega) (by omega) wl)
  have HOP := Kp.mk (shuf_order l n n (Nat.le_refl _))
  have HLP := Kp.mk (shuf_length l n n)
  generalize shuf l n n = p at *
  obtain ⟨N, hN, hNb⟩ := order_nats p HOP.out
  have HNE := Kp.mk hN
  have HNL := Kp.mk (show N.length = n by rw [← HLP.out, hN, List.length_map])
  have HN64 := Kp.mk (show ∀ y ∈ N, y < 2 ^ 6 from fun y hy => by have := hNb y hy; rw [HLP.out] at this; show y < 64; omega)
  have HNB := Kp.mk (show ∀ y ∈ N, y < n from fun y hy => by have := hNb y hy; rw [HLP.out] at this; exact this)
  have HIL := Kp.mk (show inv p ≤ 3600 from by
    have := inv_le p
    rw [HLP.out] at this
    have := Nat.mul_le_mul hn60 hn60
    omega)
  clear w0 w1 hl wl hq nl hn hN hNb
  go_enter Try.func4, Try.ntmps4
  go_wp2_with fail
  refine (CP.out _).mono ?_
  rintro e w' ⟨rfl, rfl⟩
  go_wp2_with fail
  rw [HN.out]
  refine CS.out.mono ?_
  rintro e w1 ⟨pa, pc, rfl, hs, hb⟩
  have HP1 := Kp.mk hs
  have HB1 := Kp.mk hb
  clear hs hb CS CP
  go_wp2_with fail
  refine (copiedT_n pa pc n p w1 HP1.out HLP.out (by omega)).mono ?_
  rintro e w2 ⟨ca, cc, rfl, hc, hb⟩
  have HC := Kp.mk hc
  have HP2 := Kp.mk (HP1.out.below hb)
  have HB2 := Kp.mk (below_step HB1.out hb)
  clear hc hb HP1 HB1
  go_wp2_with fail
  refine (swaps_any ca cc n p w2 HC.out HLP.out (by omega) HOP.out).mono ?_
  rintro e w3 ⟨rfl, hb⟩
  have HP3 := Kp.mk (HP2.out.below hb)
  have HB3 := Kp.mk (below_step HB2.out hb)
  clear hb HP2 HB2 HC
  obtain ⟨M, hM⟩ : ∃ M, M = inv p := ⟨_, rfl⟩
  rw [← hM] at HIL ⊢
  have HM := Kp.mk hM
  have hM36 := HIL.out
  clear hM
  go_wp2_with fail
  refine (copiedT_n pa pc n p w3 HP3.out HLP.out (by omega)).mono ?_
  rintro e w4 ⟨ca, cc, rfl, hc, hb⟩
  have HC := Kp.mk (show SlC w4 ca n cc 1 (nts N) from by rw [nts_ints, ← HNE.out]; have := hc; unfold SlI at this; rwa [HLP.out] at this)
  have HP4 := Kp.mk (HP3.out.below hb)
  have HB4 := Kp.mk (below_step HB3.out hb)
  clear hc hb HP3 HB3
  go_wp2_with fail
  refine (wmake_any ca cc 6 n N w4 HC.out (by omega) (by omega) (by omega) HN64.out).mono ?_
  rintro e w5 ⟨sa, sc, rfl, HW5, hb⟩
  have HP5 := Kp.mk (HP4.out.below hb)
  have HB5 := Kp.mk (below_step HB4.out hb)
  have hal := below_alloc (Nat.le_refl w5.heap.size) (.cells #[.slice sa 6 sc] 47)
  have HP6 := Kp.mk (HP5.out.below hal)
  have HB6 := Kp.mk (below_step HB5.out hal)
  have HW6 := Kp.mk (HW5.out.below hal)
  have HX6 := Kp.mk (Box.new w5 #[.slice sa 6 sc] 47)
  obtain ⟨b9, hb9⟩ : ∃ b9, b9 = w5.heap.size := ⟨_, rfl⟩
  clear hb hal HP5 HB5 HW5 HP4 HB4 HC
  go_upto_region 5 with (fail)
  rw [← hb9] at HX6 ⊢
  generalize w5.alloc (.cells #[.slice sa 6 sc] 47) = w6 at *
  clear hb9
  go_wp2_with (at_make; refine wpList_mk1 tInts rfl rfl _ _ rfl w6.heap.size n rfl rfl ?c1 (by decide) (Nat.le_refl _) ?c3)
  case c1 => omega
  case c3 =>
    intro za zc w7 hs hb
    have HZ := Kp.mk (zeros_sl (own_slc hs))
    have HP7 := Kp.mk (HP6.out.below hb)
    have HB7 := Kp.mk (below_step HB6.out hb)
    have HW7 := Kp.mk (HW6.out.below hb)
    have HX7 := Kp.mk (HX6.out.below hb)
    clear hs hb HP6 HB6 HW6 HX6
    go_wp2_with fail
    refine (fmake_any za zc n (List.replicate n 0) w7 HZ.out (by simp) (by omega) 60 (by omega) (by omega) (fun x hx => by rw [List.eq_of_mem_replicate hx]; omega)).mono ?_
    rintro e w8 ⟨ta, tc, rfl, hs, hb⟩
    have HT8 := Kp.mk (show w8.ownsRow 0 3 1 (.slice ta n tc) n (ints (treeOf (cameL [] n))) from by rw [cameL_nil]; exact own_base hs (Nat.zero_le _))
    have HP8 := Kp.mk (HP7.out.below hb)
    have HB8 := Kp.mk (below_step HB7.out hb)
    have HW8 := Kp.mk (HW7.out.below hb)
    have HX8 := Kp.mk (HX7.out.below hb)
    clear hs hb HP7 HB7 HW7 HX7 HZ
    obtain ⟨wo, rfl⟩ : ∃ wo : World, wo = w8 := ⟨_, rfl⟩
    go_wp2
    go_loopw [11, 13, 14, 16, 17] (fun t x y ps i wr => ∃ (k X Y : Nat) (ta : Option Addr) (tc : Nat) (ra : Option Addr) (rc : Nat), k ≤ n ∧ t = .slice ta n tc ∧ x = .int .i64 X ∧ y = .int .i64 Y ∧ ps = .slice ra k rc ∧ i = .int .i64 k ∧ Kp (wr.ownsRow 0 3 1 (.slice ta n tc) n (ints (treeOf (cameL (p.take k) n)))) ∧ Kp (X + inv (p.drop k) = M) ∧ Kp (Y = inv (p.take k)) ∧ Kp (wr.ownsRow wo.heap.size 36 3 (.slice ra k rc) k (flat ptL (swPts p k))) ∧ Kp (Below wo.heap.size wo wr)) (fun _ _ _ _ i _ => n - (intOf i).toNat)
    case atStart => exact ⟨0, 0, 0, ta, tc, none, 0, Nat.zero_le _, rfl, rfl, rfl, rfl, rfl, HT8, ⟨by rw [HM.out, List.drop_zero, Nat.zero_add]⟩, ⟨by rw [List.take_zero, inv_none]⟩, ⟨by unfold swPts; exact World.ownsRow_nil _ _ _ _⟩, ⟨Below.refl _ _⟩⟩
    case round =>
      obtain ⟨k, X, Y, ta, tc, ra, rc, hk, rfl, rfl, rfl, rfl, rfl, HT, HX, HY, HR, HB⟩ := hrel
      by_cases hlt : k < n
      · have HPr := Kp.mk (HP8.out.below HB.out)
        have HWr := Kp.mk (HW8.out.below HB.out)
        have HXr := Kp.mk (HX8.out.below HB.out)
        have hkp : k < p.length := by rw [HLP.out]; exact hlt
        obtain ⟨b, off, rfl, cx⟩ := HPr.out.at k hkp
        rw [← getD_at p 0 hkp] at cx
        obtain ⟨x, hx⟩ : ∃ x : Nat, x = N.getD k 0 := ⟨_, rfl⟩
        have hpx : p.getD k 0 = (x : Int) := by rw [hx, HNE.out]; exact nat_getD N k
        have hxn : x < n := by rw [hx, getD_at _ _ (by rw [HNL.out]; exact hlt)]; exact HNB.out _ (List.getElem_mem _)
        have HSW := Kp.mk (swPts_succ p k)
        have HTK := Kp.mk (take_more p k hkp)
        rw [hpx] at cx HSW HTK
        have x9 : wr.cell? ⟨b9, 0, none⟩ = some (.slice sa 6 sc) := HXr.out.cell 0 rfl
        have hbl := below_low p N HNE.out k n HLP.out
        have hid := inv_drop p k hkp
        have hit := inv_take p k hkp HOP.out.1
        rw [← hx] at hbl
        rw [hpx] at hbl hid hit
        have hsk := low_len (x : Int) (p.take k)
        rw [List.length_take] at hsk
        have hpre := cameL_pre (p.take k) n (fun y hy => (HOP.out.2 y (List.mem_of_mem_take hy)).1) x (by omega)
        obtain ⟨m, hm⟩ : ∃ m, m = low (x : Int) (p.drop (k + 1)) := ⟨_, rfl⟩
        obtain ⟨s, hs⟩ : ∃ s, s = low (x : Int) (p.take k) := ⟨_, rfl⟩
        obtain ⟨Y2, hY2⟩ : ∃ Y2, Y2 = inv (p.take (k + 1)) := ⟨_, rfl⟩
        rw [← hm] at hbl hid
        rw [← hs] at hit hsk hpre
        rw [← hY2, ← HY.out] at hit
        have HY2 := Kp.mk hY2
        have HX2 := Kp.mk (show (X + m) + inv (p.drop (k + 1)) = M from by have := HX.out; omega)
        have hXm : X + m ≤ 3600 := by have := HX2.out; omega
        have hY36 : Y ≤ 3600 := by rw [HY.out]; exact inv_take_le p k n HLP.out hn60
        have hY236 : Y2 ≤ 3600 := by rw [hY2]; exact inv_take_le p (k + 1) n HLP.out hn60
        have eY : (Y : Int) + ((k : Int) - s) = (Y2 : Nat) := hit.symm
        have e1 : IntKind.i64.wrap ((k : Int) - s) = (k : Int) - s := IntWalk.i64_in _ (by omega)
        have e2 : IntKind.i64.wrap ((Y : Int) + ((k : Int) - s)) = (Y2 : Nat) := by rw [eY]; exact IntWalk.i64_in _ (by omega)
        have e3 : IntKind.i64.wrap (-(k : Int)) = -(k : Int) := IntWalk.i64_in _ (by omega)
        have e4 : IntKind.i64.wrap ((k : Int) + 1) = (k : Int) + 1 := IntWalk.i64_in _ (by omega)
        have e5 : IntKind.i64.wrap ((X : Int) + m) = ((X + m : Nat) : Int) := by rw [IntWalk.i64_in _ (by omega)]; omega
        have hdr : Below wr.heap.size wr wr.drew := (Below.refl _ _).drew
        have CB := Kp.mk (show Calls Try.prog 24 #[.agg #[.slice sa 6 sc], .int .i64 ((k : Int) + 1), .int .i64 n, .int .i64 x] wr.drew fun e w' => e = .returned (.tuple #[.int .i64 (m : Nat), .int .i64 0]) ∧ Below wr.drew.heap.size wr.drew w' from by
          have := wBelow_any sa sc 6 n x (k + 1) n N wr.drew (HWr.out.below hdr) HNL.out (by omega) (by omega) (by omega) (by omega) (Nat.le_refl _) HN64.out (by omega)
          rw [hbl] at this
          exact this)
        have CM := Kp.mk (fun (W : World) (h : SlI W ta tc (treeOf (cameL (p.take k) n))) => hpre ▸ fsum_any ta tc n x (cameL (p.take k) n) W h (cameL_length _ _) (by omega) (by omega) 60 (by omega) (by omega) (fun y hy => by have := cameL_bd _ n y hy; rw [List.length_take] at this; omega))
        have CA := Kp.mk (fun (W : World) (h : SlI W ta tc (treeOf (cameL (p.take k) n))) => fadd_any ta tc n x 1 (treeOf (cameL (p.take k) n)) W h (by rw [treeOf_length, cameL_length]) (by omega) hxn (by omega) (by omega) (came_tree_bd _ n (by rw [List.length_take]; omega) (by omega)) (by rw [tadd _ _ _ hxn (by omega), ← HTK.out]; exact came_tree_bd _ n (by rw [List.length_take]; omega) (by omega)))
        rw [tadd _ _ _ hxn (by omega), ← HTK.out] at CA
        have HKS := Kp.mk (fun (w' : World) (hb : Below wr.drew.heap.size wr.drew w') => show w'.cell? ⟨b9, 0, none⟩ = some (.slice sa 6 sc) ∧ w'.cell? ⟨b, off + k, none⟩ = some (.int .i64 x) from by
          have hb' := hdr.trans hb
          exact ⟨(hb'.cell (p := ⟨b9, 0, none⟩) (World.block_lt_of_cell? _ _ x9)).trans x9, (hb'.cell (p := ⟨b, off + k, none⟩) (World.block_lt_of_cell? _ _ cx)).trans cx⟩)
        clear hdr hm hs hY2 hx hpx hbl hid hit hpre eY hkp HXr HWr HPr HX HY HTK
        go_wp2
        go_region_held3 (fun w' => w'.cell? ⟨b9, 0, none⟩ = some (.slice sa 6 sc) ∧ w'.cell? ⟨b, off + k, none⟩ = some (.int .i64 x))
          (first | exact ⟨x9, cx⟩ | exact hS6)
          ((first
            | (go_at_call 24; (with_reducible refine CB.out.mono ?_); rintro e w6 ⟨rfl, hb6⟩; have hS6 := HKS.out w6 hb6)
            | fail))
        all_goals
          have HBr := Kp.mk (show Below wr.heap.size wr w6 from ((Below.refl wr.heap.size wr).drew.trans hb6))
          have HT6 := Kp.mk (show SlI w6 ta tc (treeOf (cameL (p.take k) n)) from own_sl_len (own_below HT.out HBr.out) (by rw [treeOf_length, cameL_length]))
          have cx6 := hS6.2
          clear hb6 hS6 CB HKS x9 cx HT
          go_wp2_with fail
          refine (CM.out w6 HT6.out).mono ?_
          rintro e w' ⟨rfl, rfl⟩
          go_wp2_with fail
          refine (CA.out w6 HT6.out).mono ?_
          rintro e w7 ⟨na, nc, rfl, hs, hb⟩
          have HT7 := Kp.mk (show w7.ownsRow 0 3 1 (.slice na n nc) n (ints (treeOf (cameL (p.take (k + 1)) n))) from own_base hs (Nat.zero_le _))
          have cx7 := (hb.cell (p := ⟨b, off + k, none⟩) (World.block_lt_of_cell? _ _ cx6)).trans cx6
          have HB7 := Kp.mk (HBr.out.trans (hb.mono HBr.out.size))
          have HBo := Kp.mk (HB.out.trans (HB7.out.mono HB.out.size))
          have HR7 := Kp.mk (own_below HR.out HB7.out)
          clear hs hb CM CA HT6 cx6 HBr HR
          go_wp2_with (at_builtin; refine wpList_pushS tPts rfl _ _ rfl wo.heap.size ra k rc _ rfl HR7.out 1 _ rfl rfl ?d1 ?d2 (by decide) HBo.out.size ?d4)
          case d1 => simp [Value.oneCell']
          case d2 => omega
          case d4 =>
            intro ya yc w8 ho4 hg _
            have hb4 := below_of_grown hg HBo.out.size (fun q hq => (own_lt HR7.out q hq).1)
            have HX4 := Kp.mk (show w8.ownsRow wo.heap.size 36 3 (.slice ya (k + 1) yc) (k + 1) (flat ptL (swPts p (k + 1))) from by
              rw [HSW.out, flat_append]
              have e : flat ptL [(⟨-(k : Int), (x : Int), 0⟩ : Pt)] = [.int .i64 (-(k : Int)), .int .i64 (x : Int), .int .i64 0] := by simp [flat, ptL]
              rw [e]; exact ho4)
            have HB4 := Kp.mk (HBo.out.trans hb4)
            have HT8 := Kp.mk (own_keep HT7.out hg (fun q hq => own_two HR7.out HT7.out (by decide) q hq))
            clear ho4 hb4 hg cx7
            go_wp2
            go_roundw
            case rel => exact ⟨k + 1, X + m, Y2, na, nc, ya, yc, by omega, rfl, rfl, rfl, rfl, by go_num, HT8, HX2, HY2, HX4, HB4⟩
            case measure => simp [intOf]; omega
      · have hkn : k = n := by omega
        subst hkn
        have hX := HX.out
        have hY := HY.out
        rw [List.drop_of_length_le (by rw [HLP.out]; exact Nat.le_refl _), inv_none, Nat.add_zero] at hX
        rw [List.take_of_length_le (by rw [HLP.out]; exact Nat.le_refl _), ← HM.out] at hY
        subst hX
        subst hY
        have HP := Kp.mk (show SlF ptL 3 wr ra k rc (swPts p k) from own_slc HR.out)
        have HNR := Kp.mk (swPts_near p k (by omega) (fun i hi => by
          have hip : i < p.length := by rw [HLP.out]; exact hi
          have := HOP.out.2 (p.getD i 0) (by rw [getD_at _ _ hip]; exact List.getElem_mem _)
          rw [HLP.out] at this
          omega))
        have HUL := Kp.mk (fun (j : Nat) (h : j < k) => und_low p j k HLP.out h HOP.out.1)
        have HBw := Kp.mk (below_step HB8.out HB.out)
        generalize swPts p k = L at *
        clear HX HY HR HB HT HB8 HP8 HW8 HX8
        obtain ⟨wp, rfl⟩ : ∃ wp : World, wp = wr := ⟨_, rfl⟩
        go_wp2
        go_loopw [15, 24] (fun u i wr => ∃ (j U : Nat), j ≤ k ∧ i = .int .i64 j ∧ u = .int .i64 U ∧ Kp (U + inv (p.drop j) = Y) ∧ Kp (Below wp.heap.size wp wr)) (fun _ i _ => k - (intOf i).toNat)
        case atStart => exact ⟨0, 0, Nat.zero_le _, rfl, rfl, ⟨by rw [List.drop_zero, Nat.zero_add, ← HM.out]⟩, ⟨Below.refl _ _⟩⟩
        case round =>
          obtain ⟨j, U, hj, rfl, rfl, HU, HB⟩ := hrel
          by_cases hjk : j < k
          · have hid := inv_drop p j (by rw [HLP.out]; exact hjk)
            have hul := HUL.out j hjk
            obtain ⟨m, hm⟩ : ∃ m, m = low (p.getD j 0) (p.drop (j + 1)) := ⟨_, rfl⟩
            rw [← hm] at hid hul
            have HU2 := Kp.mk (show (U + m) + inv (p.drop (j + 1)) = Y from by have := HU.out; omega)
            have hUm : U + m ≤ 3600 := by have := HU2.out; omega
            have e5 : IntKind.i64.wrap ((U : Int) + m) = ((U + m : Nat) : Int) := by rw [IntWalk.i64_in _ (by omega)]; omega
            have HPj := Kp.mk (SlF.below HP.out HB.out)
            have CU := Kp.mk (fun (W : World) (a : Option Addr) (c : Nat) (h : SlF ptL 3 W a k c L) => hul ▸ under_any a c k j L W h (by omega) HNR.out hjk)
            clear hid hul hm HU
            go_wp2_with fail
            refine (topPoints_any ra rc k L wr HPj.out (by omega)).mono ?_
            rintro e w4 ⟨qa, qc, rfl, HP4, hb4⟩
            have HB4 := Kp.mk (below_step HB.out hb4)
            clear hb4 HPj HB
            go_wp2_with fail
            refine (CU.out w4 qa qc HP4.out).mono ?_
            rintro e w5 ⟨rfl, hb5⟩
            have HB5 := Kp.mk (below_step HB4.out hb5)
            clear hb5 HB4 CU HP4
            go_wp2
            go_roundw
            case rel => exact ⟨j + 1, U + m, by omega, by go_num, rfl, HU2, HB5⟩
            case measure => simp [intOf]; omega
          · obtain rfl : j = k := by omega
            have hU := HU.out
            rw [List.drop_of_length_le (by rw [HLP.out]; exact Nat.le_refl _), inv_none, Nat.add_zero] at hU
            subst hU
            have HBE := Kp.mk (below_step HBw.out HB.out)
            clear HU HB HM HIL
            go_wp2
            go_ret
            exact ⟨by simp, HBE.out⟩

end Go.Proofs.Ytdegnnbffehmnaa


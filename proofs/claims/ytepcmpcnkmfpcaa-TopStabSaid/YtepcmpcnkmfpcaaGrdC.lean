/- Package grid: columns, below. -/
import Derived.Test.YtepcmpcnkmfpcaaGrdB
import Derived.Test.YtepcmpcnkmfpcaaSrch
namespace Go.Proofs.Ytepcmpcnkmfpcaa
set_option linter.unusedVariables false
open Go.RowKit

/-- Behind a number (or at it). -/
def past (y : Int) (at' : Bool) (v : Int) : Bool := decide (y < v) || (!at' && decide (v = y))
theorem past_mono {y : Int} {at' : Bool} {u v : Int} (h : u ≤ v) (hu : past y at' u = true) : past y at' v = true := by
  unfold past at *
  cases at' <;> simp at * <;> omega
/-- The first place at which a test is met. -/
def fstIdx (p : Nat → Bool) (n : Nat) : Nat := (List.range n).findIdx p
theorem fstIdx_uniq (p : Nat → Bool) (n k : Nat) (hk : k ≤ n) (h1 : ∀ i, i < k → p i = false) (h2 : k < n → p k = true) : fstIdx p n = k := by
  unfold fstIdx
  rcases Nat.lt_or_ge k n with h | h
  · rw [List.findIdx_eq (by rw [List.length_range]; exact h)]
    refine ⟨by rw [List.getElem_range]; exact h2 h, fun j hj => ?_⟩
    rw [List.getElem_range]; simpa using h1 j hj
  · obtain rfl : k = n := by omega
    have := List.findIdx_eq_length_of_false (xs := List.range k) (p := p) (fun x hx => by
      simpa using h1 x (List.mem_range.1 hx))
    rw [this, List.length_range]
theorem fstIdx_le (p : Nat → Bool) (n : Nat) : fstIdx p n ≤ n := by
  have := List.findIdx_le_length (xs := List.range n) (p := p)
  rwa [List.length_range] at this
theorem fstIdx_before (p : Nat → Bool) (n i : Nat) (h : i < fstIdx p n) : p i = false := by
  have h1 := List.not_of_lt_findIdx (xs := List.range n) (p := p) h
  rw [List.getElem_range] at h1
  simpa using h1
theorem fstIdx_at (p : Nat → Bool) (n : Nat) (h : fstIdx p n < n) : p (fstIdx p n) = true := by
  have h1 := List.findIdx_getElem (xs := List.range n) (p := p) (w := by rw [List.length_range]; exact h)
  rw [List.getElem_range] at h1
  exact h1
attribute [irreducible] fstIdx past

/-- Those of a range of the order that are not behind a number. -/
def cntY (L : List Pt) (O : List Nat) (a b : Nat) (y : Int) (at' : Bool) : Nat := ((O.take b).drop a).countP fun i => !past y at' (L.getD i pt0).y
theorem below_eq {n : Nat} {L : List Pt} {O R : List Nat} {V : List Int} (h : GFacts n L O V R) (a b : Nat) (hb : b ≤ n) (y : Int) (at' : Bool) :
    cntBelow (sg R a b) (fstIdx (fun i => past y at' (V.getD i 0)) V.length) = cntY L O a b y at' := by
  have hol := h.ord.len
  unfold cntBelow cntY sg
  have hR := rank_cnt (fun v => !past y at' v) V h.up (fstIdx (fun i => past y at' (V.getD i 0)) V.length)
    (fun i hi hv => by rw [fstIdx_before (fun i => past y at' (V.getD i 0)) V.length i hi]; rfl)
    (fun i hi hv => by
      have h1 := fstIdx_at (fun i => past y at' (V.getD i 0)) V.length (by omega)
      rw [past_mono (up_le h.up hi hv) h1]; rfl) (((O.take b).drop a).map fun i => (L.getD i pt0).y) ((R.take b).drop a)
    (by
      simp only [List.length_map, List.length_drop, List.length_take]
      have := h.rl; have := h.len; omega)
    (fun i hi => by
      simp only [List.length_map, List.length_drop, List.length_take] at hi
      have hl := h.len
      have hi2 : a + i < n := by omega
      have h1 := h.rk (a + i) hi2
      have e1 : ((R.take b).drop a).getD i 0 = R.getD (a + i) 0 := by
        rw [getD_at _ _ (by rw [List.length_drop, List.length_take, h.rl]; omega), List.getElem_drop, List.getElem_take, getD_at _ _ (by rw [h.rl]; exact hi2)]
      have e2 : (((O.take b).drop a).map fun i => (L.getD i pt0).y).getD i 0 = (L.getD (O.getD (a + i) 0) pt0).y := by
        rw [getD_at _ _ (by rw [List.length_map, List.length_drop, List.length_take]; omega), List.getElem_map, List.getElem_drop, List.getElem_take, getD_at O 0 (by omega)]
      rw [e1, e2]
      exact h1)
  rw [hR, List.countP_map]
  rfl

set_option maxRecDepth 100000 in
set_option maxHeartbeats 2000000 in
theorem coltest_any (bq b2 b3 g k n : Nat) (from' : Int) (above : Bool) (a : Option Addr) (cap : Nat) (L : List Pt) (oa : Option Addr) (oc : Nat) (O : List Nat) (va : Option Addr) (v vc : Nat) (V : List Int) (wa : Option Addr) (wc : Nat) (R : List Nat) (W : World)
    (h : GIdx W g a cap n L oa oc O va v vc V wa wc R) (hf : GFacts n L O V R) (hn : n ≤ 1000) (c1 : W.cell? ⟨bq, 0, none⟩ = some (.pointer (some ⟨g, 0, none⟩))) (c2 : W.cell? ⟨b2, 0, none⟩ = some (.int .i64 from')) (c3 : W.cell? ⟨b3, 0, none⟩ = some (.bool above)) (hk : k < n) :
    Calls Try.prog 77 #[.int .i64 k, .pointer (some ⟨bq, 0, none⟩), .pointer (some ⟨b2, 0, none⟩), .pointer (some ⟨b3, 0, none⟩)] W fun e w' => e = .returned (.bool (past from' above (L.getD (O.getD k 0) pt0).x)) ∧ Drew W w' := by
  have hol := hf.ord.len
  have hl := hf.len
  obtain ⟨ob, oo, rfl, co⟩ := h.ord.at k (by rw [List.length_map]; omega)
  rw [List.getElem_map, ← getD_at O 0 (by omega)] at co
  have hil := hf.ord.lt k (by omega)
  obtain ⟨pb, po, rfl, hpb, cp⟩ := h.ps.at ptL_len (by omega) (O.getD k 0) (by omega)
  rw [← getD_at L pt0 (by omega)] at cp
  have g0 := h.bx.cell 0 rfl
  have g1 := h.bx.cell 1 rfl
  generalize L.getD (O.getD k 0) pt0 = p at *
  generalize O.getD k 0 = i at *
  have p0 : W.cell? ⟨pb, po + i * 3, none⟩ = some (.int .i64 p.x) := cp 0 (by omega)
  have co' : W.cell? ⟨ob, oo + k, none⟩ = some (.int .i64 (i : Int)) := co
  have hin : (i : Int) < n := by omega
  have hkz : (k : Int) < n := by omega
  have hor : (decide (from' < p.x) = true ∧ Kp (past from' above p.x = true)) ∨ (decide (from' < p.x) = false ∧ above = true ∧ Kp (past from' above p.x = false)) ∨ (decide (from' < p.x) = false ∧ above = false ∧ (p.x == from') = true ∧ Kp (past from' above p.x = true)) ∨ (decide (from' < p.x) = false ∧ above = false ∧ (p.x == from') = false ∧ Kp (past from' above p.x = false)) := by
    unfold past
    by_cases h1 : from' < p.x
    · exact .inl ⟨decide_eq_true h1, ⟨by simp [h1]⟩⟩
    · cases above with
      | true => exact .inr (.inl ⟨decide_eq_false h1, rfl, ⟨by simp [h1]⟩⟩)
      | false =>
        by_cases h2 : p.x = from'
        · exact .inr (.inr (.inl ⟨decide_eq_false h1, rfl, by simpa using h2, ⟨by simp [h2]⟩⟩))
        · exact .inr (.inr (.inr ⟨decide_eq_false h1, rfl, by simpa using h2, ⟨by simp [h1, h2]⟩⟩))
  generalize past from' above p.x = r at *
  clear h hf hol hl cp co hil hpb
  rcases hor with ⟨t1, HE⟩ | ⟨t1, rfl, HE⟩ | ⟨t1, rfl, t2, HE⟩ | ⟨t1, rfl, t2, HE⟩
  all_goals
    rw [HE.out]
    clear HE
    go_enter Try.func77, Try.ntmps77
    go_wp2
    go_quiet (fail)
    have c2' : (W.drewN nq).cell? ⟨b2, 0, none⟩ = some (.int .i64 from') := c2
    have c3' := c3
    go_wp2
    go_ret
    exact ⟨rfl, nq, rfl⟩

end Go.Proofs.Ytepcmpcnkmfpcaa

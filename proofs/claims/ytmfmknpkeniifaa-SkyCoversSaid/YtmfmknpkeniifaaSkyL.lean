/- Package sky: the walk of Layers. -/
import Derived.Test.YtmfmknpkeniifaaSkyS
import Derived.Test.YtmfmknpkeniifaaDel
import Derived.Test.YtmfmknpkeniifaaTwo
namespace Go.Proofs.Ytmfmknpkeniifaa
set_option linter.unusedVariables false
open Go.RowKit

/-- The memory of Layers within its loop. -/
structure LayMem (n0 B3 g gc : Nat) (w wr : World) (a : Option Addr) (cap n : Nat) (L : List Pt) (oa : Option Addr) (oc : Nat) (O : List Nat) (R : List Nat) (ta : Option Addr) (t tc : Nat) (tops : List Int) : Prop where
  ps : SlF ptL 3 wr a n cap L
  ord : SlI wr oa oc (O.map Int.ofNat)
  out : wr.ownsRow n0 3 1 (.slice (some ⟨g, 0, none⟩) n gc) n (ints (R.map Int.ofNat))
  tops : wr.ownsRow B3 3 1 (.slice ta t tc) t (ints tops)
  bel : Below n0 w wr
  psb : ∀ k, blk a = some k → k < n0
  ordb : ∀ k, blk oa = some k → k < B3 ∧ k ≠ g
  gb : n0 ≤ g ∧ g < B3
  sz : B3 ≤ wr.heap.size
section
variable {n0 B3 g gc : Nat} {w wr w' : World} {a : Option Addr} {cap n : Nat} {L : List Pt} {oa : Option Addr} {oc : Nat} {O R : List Nat} {ta : Option Addr} {t tc : Nat} {tops : List Int}
theorem LayMem.below (h : LayMem n0 B3 g gc w wr a cap n L oa oc O R ta t tc tops) (hb : Below wr.heap.size wr w') : LayMem n0 B3 g gc w w' a cap n L oa oc O R ta t tc tops :=
  ⟨h.ps.below hb, h.ord.below hb, own_below h.out hb, own_below h.tops hb, h.bel.trans (hb.mono (by have := h.sz; have := h.gb; omega)), h.psb, h.ordb, h.gb, Nat.le_trans h.sz hb.size⟩
theorem LayMem.push {ta' : Option Addr} {t' tc' : Nat} {tops' : List Int} (h : LayMem n0 B3 g gc w wr a cap n L oa oc O R ta t tc tops) (hg : wr.grownBy w' (blk ta)) (ho : w'.ownsRow B3 3 1 (.slice ta' t' tc') t' (ints tops')) : LayMem n0 B3 g gc w w' a cap n L oa oc O R ta' t' tc' tops' := by
  have hlt := own_lt h.tops
  have hgb := h.gb
  refine ⟨SlC.keep h.ps hg (fun k hk e => ?_), SlC.keep h.ord hg (fun k hk e => ?_), own_keep h.out hg (fun k hk e => ?_), ho, h.bel.trans (below_of_grown hg (by have := h.sz; omega) (fun k hk => by have := (hlt k hk).1; omega)), h.psb, h.ordb, h.gb, Nat.le_trans h.sz hg.size⟩
  · have := h.psb k e; have := (hlt k hk).1; omega
  · have := h.ordb k e; have := (hlt k hk).1; omega
  · have := (hlt k hk).1
    simp only [blk, Option.map_some, Option.some.injEq] at e
    omega
theorem LayMem.store {tb i : Nat} {x : Int} (h : LayMem n0 B3 g gc w wr a cap n L oa oc O R (some ⟨tb, 0, none⟩) t tc tops) : LayMem n0 B3 g gc w (wr.setCell ⟨tb, i, none⟩ (.int .i64 x)) a cap n L oa oc O R (some ⟨tb, 0, none⟩) t tc (tops.set i x) := by
  refine h.push (grown_set wr tb i _) ?_
  rw [← ints_set]
  exact (h.tops.stored i (.int .i64 x)).1
theorem LayMem.put {i x : Nat} (h : LayMem n0 B3 g gc w wr a cap n L oa oc O R ta t tc tops) : LayMem n0 B3 g gc w (wr.setCell ⟨g, i, none⟩ (.int .i64 (x : Int))) a cap n L oa oc O (R.set i x) ta t tc tops := by
  have hg := grown_set wr g i (.int .i64 (x : Int))
  have hgb := h.gb
  refine ⟨SlC.keep h.ps hg (fun k hk e => ?_), SlC.keep h.ord hg (fun k hk e => ?_), ?_, own_keep h.tops hg (fun k hk e => ?_), h.bel.trans (below_of_grown hg (by have := h.sz; omega) (fun k hk => by cases hk; exact hgb.1)), h.psb, h.ordb, h.gb, Nat.le_trans h.sz hg.size⟩
  · cases hk; have := h.psb _ e; omega
  · cases hk; exact (h.ordb _ e).2 rfl
  · rw [List.map_set, ← ints_set]
    exact (h.out.stored i (.int .i64 (x : Int))).1
  · cases hk; have := (own_lt h.tops _ e).1; omega
theorem LayMem.outc (h : LayMem n0 B3 g gc w wr a cap n L oa oc O R ta t tc tops) (hR : R.length = n) (i : Nat) (hi : i < n) : wr.cell? ⟨g, i, none⟩ = some (.int .i64 ((R.getD i 0 : Nat) : Int)) := by
  rw [h.out.cellAt i (by omega), List.getElem?_eq_getElem (by rw [ints_length, List.length_map]; omega), ints_get, getD_at _ _ (by omega)]
  simp
theorem LayMem.topc {tb : Nat} (h : LayMem n0 B3 g gc w wr a cap n L oa oc O R (some ⟨tb, 0, none⟩) t tc tops) (hT : tops.length = t) (i : Nat) (hi : i < t) : wr.cell? ⟨tb, i, none⟩ = some (.int .i64 (tops.getD i 0)) := by
  rw [h.tops.cellAt i (by omega), List.getElem?_eq_getElem (by rw [ints_length]; omega), ints_get, getD_at _ _ (by omega)]
theorem LayMem.box {bp : Nat} {cs : Array Value} {T : TypeId} (h : LayMem n0 B3 g gc w wr a cap n L oa oc O R ta t tc tops) (hb : Box wr bp cs T) (hg : wr.grownBy w' (blk ta)) (hne : T ≠ 3) : Box w' bp cs T :=
  (hg.block bp hb.lt (fun e => by
    rcases h.tops.2 with ⟨hv, _⟩ | ⟨g', _, _, hv, _, hgb, _⟩
    · simp only [Value.slice.injEq] at hv; rw [hv.1] at e; cases e
    · simp only [Value.slice.injEq] at hv
      rw [hv.1] at e
      simp only [blk, Option.map_some, Option.some.injEq] at e
      subst e
      have hb' : wr.heap[bp]? = some (.cells cs T (0, 0)) := hb
      rw [hgb] at hb'
      cases hb'
      exact hne rfl)).trans hb
end
theorem getD_set_same (R : List Nat) (i x : Nat) (h : i < R.length) : (R.set i x).getD i 0 = x := by
  rw [getD_at _ _ (by rw [List.length_set]; exact h), List.getElem_set_self]
theorem getD_set_other (R : List Nat) (i j x : Nat) (h : i ≠ j) : (R.set i x).getD j 0 = R.getD j 0 := by
  simp [List.getD, List.getElem?_set_ne h]
theorem getD_iset_same (R : List Int) (i : Nat) (x : Int) (h : i < R.length) : (R.set i x).getD i 0 = x := by
  rw [getD_at _ _ (by rw [List.length_set]; exact h), List.getElem_set_self]
theorem getD_iset_other (R : List Int) (i j : Nat) (x : Int) (h : i ≠ j) : (R.set i x).getD j 0 = R.getD j 0 := by
  simp [List.getD, List.getElem?_set_ne h]
/-- Those of an order that were met, from its end on. -/
def met (O : List Nat) (j : Nat) : List Nat := O.reverse.take j
theorem met_succ (O : List Nat) (j : Nat) (h : j < O.length) : met O (j + 1) = met O j ++ [O.getD (O.length - 1 - j) 0] := by
  unfold met
  rw [List.take_succ_eq_append_getElem (by rw [List.length_reverse]; exact h), List.getElem_reverse, getD_at _ _ (by omega)]
theorem met_length (O : List Nat) (j : Nat) (h : j ≤ O.length) : (met O j).length = j := by
  unfold met
  rw [List.length_take, List.length_reverse]; omega
theorem met_mem {O : List Nat} {j d : Nat} (h : d ∈ met O j) : ∃ i, i < O.length ∧ O.length - j ≤ i ∧ O.getD i 0 = d := by
  unfold met at h
  obtain ⟨i, hi, rfl⟩ := List.getElem_of_mem h
  rw [List.length_take, List.length_reverse] at hi
  refine ⟨O.length - 1 - i, by omega, by omega, ?_⟩
  rw [List.getElem_take, List.getElem_reverse, getD_at _ _ (by omega)]
theorem mem_met {O : List Nat} {j i : Nat} (h1 : i < O.length) (h2 : O.length - j ≤ i) (h3 : j ≤ O.length) : O.getD i 0 ∈ met O j := by
  unfold met
  have e : O.getD i 0 = (O.reverse.take j)[O.length - 1 - i]'(by rw [List.length_take, List.length_reverse]; omega) := by
    rw [List.getElem_take, List.getElem_reverse, getD_at _ _ h1]
    congr 1; omega
  rw [e]
  exact List.getElem_mem _
/-- What stands ahead in the order is not to the right. -/
theorem IsOrder.lex {L : List Pt} {O : List Nat} (h : IsOrder L O) {j : Nat} (hj : j < O.length) : ∀ d ∈ met O j, lexLe (L.getD (O.getD (O.length - 1 - j) 0) pt0) (L.getD d pt0) := by
  intro d hd
  obtain ⟨i, h1, h2, rfl⟩ := met_mem hd
  exact h.up (O.length - 1 - j) i (by omega) h1
theorem IsOrder.notmet {L : List Pt} {O : List Nat} (h : IsOrder L O) {j : Nat} (hj : j < O.length) : O.getD (O.length - 1 - j) 0 ∉ met O j := by
  intro hd
  obtain ⟨i, h1, h2, e⟩ := met_mem hd
  have hn := h.nodup
  rw [getD_at _ _ h1, getD_at _ _ (by omega)] at e
  exact List.pairwise_iff_getElem.1 hn (O.length - 1 - j) i (by omega) h1 (by omega) e.symm
theorem IsOrder.all {L : List Pt} {O : List Nat} (h : IsOrder L O) : ∀ i, i < L.length → i ∈ met O O.length := by
  intro i hi
  unfold met
  rw [List.take_of_length_le (by simp), List.mem_reverse]
  exact h.perm.mem_iff.2 (List.mem_range.2 hi)
def layOf (R : List Nat) (d : Nat) : Nat := R.getD d 0
def gOf (L : List Pt) (d : Nat) : Pt := L.getD d pt0

theorem LayInv.put_copy {L : List Pt} {O R : List Nat} {tops : List Int} {j n : Nat} (hO : IsOrder L O) (hn : L.length = n) (hR : R.length = n) (hj : j < n) (hj0 : 0 < j) (h : LayInv (gOf L) (met O j) (layOf R) tops)
    (hx : (gOf L (O.getD (n - 1 - j + 1) 0)).x = (gOf L (O.getD (n - 1 - j) 0)).x) (hy : (gOf L (O.getD (n - 1 - j + 1) 0)).y = (gOf L (O.getD (n - 1 - j) 0)).y) :
    LayInv (gOf L) (met O (j + 1)) (layOf (R.set (O.getD (n - 1 - j) 0) (R.getD (O.getD (n - 1 - j + 1) 0) 0))) tops := by
  have hl := hO.len
  rw [met_succ O j (by omega), hl, hn]
  have hi := hO.lt (n - 1 - j) (by omega)
  refine h.copy _ (O.getD (n - 1 - j + 1) 0) (mem_met (by omega) (by omega) (by omega)) hx hy (fun d hd => ?_) ?_
  · refine getD_set_other _ _ _ _ (fun e => ?_)
    have := hO.notmet (j := j) (by omega)
    rw [hl, hn] at this
    rw [← e] at hd
    exact this hd
  · exact getD_set_same _ _ _ (by omega)
theorem LayInv.put_new {L : List Pt} {O R : List Nat} {tops tops' : List Int} {j n q : Nat} (hO : IsOrder L O) (hn : L.length = n) (hR : R.length = n) (hj : j < n) (h : LayInv (gOf L) (met O j) (layOf R) tops)
    (hne : 0 < j → ¬ ((gOf L (O.getD (n - 1 - j + 1) 0)).x = (gOf L (O.getD (n - 1 - j) 0)).x ∧ (gOf L (O.getD (n - 1 - j + 1) 0)).y = (gOf L (O.getD (n - 1 - j) 0)).y))
    (hq : q ≤ tops.length) (n1 : ∀ m, m < q → (gOf L (O.getD (n - 1 - j) 0)).y ≤ tops.getD m 0) (n2 : q < tops.length → tops.getD q 0 < (gOf L (O.getD (n - 1 - j) 0)).y)
    (hl' : tops'.length = if q = tops.length then tops.length + 1 else tops.length) (t1 : ∀ m, m ≠ q → m < tops.length → tops'.getD m 0 = tops.getD m 0) (t2 : tops'.getD q 0 = (gOf L (O.getD (n - 1 - j) 0)).y) :
    LayInv (gOf L) (met O (j + 1)) (layOf (R.set (O.getD (n - 1 - j) 0) q)) tops' := by
  have hl := hO.len
  have hlex := hO.lex (j := j) (by omega)
  rw [hl, hn] at hlex
  rw [met_succ O j (by omega), hl, hn]
  have hi := hO.lt (n - 1 - j) (by omega)
  refine h.new _ q hlex (fun d hd => ?_) hq n1 n2 (fun d hd => ?_) ?_ hl' t1 t2
  · intro hc
    by_cases hj0 : 0 < j
    · apply hne hj0
      obtain ⟨i, h1, h2, e⟩ := met_mem hd
      have h4 := hlex (O.getD (n - 1 - j + 1) 0) (mem_met (by omega) (by omega) (by omega))
      rcases Nat.eq_or_lt_of_le (show n - 1 - j + 1 ≤ i by omega) with e5 | e5
      · rw [e5, e]; exact hc
      · have h5 := hO.up (n - 1 - j + 1) i e5 h1
        rw [e] at h5
        unfold gOf at *
        unfold lexLe at h4 h5
        omega
    · obtain rfl : j = 0 := by omega
      simp [met] at hd
  · refine getD_set_other _ _ _ _ (fun e => ?_)
    have := hO.notmet (j := j) (by omega)
    rw [hl, hn] at this
    rw [← e] at hd
    exact this hd
  · exact getD_set_same _ _ _ (by omega)

end Go.Proofs.Ytmfmknpkeniifaa

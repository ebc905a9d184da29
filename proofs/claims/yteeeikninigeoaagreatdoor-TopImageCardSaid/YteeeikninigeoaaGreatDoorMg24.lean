import Derived.Test.YteeeikninigeoaaGreatDoorMg23
import Derived.Test.YteeeikninigeoaaGreatDoorMg10
import Derived.Test.YteeeikninigeoaaGreatDoorMg2
import Derived.Test.YteeeikninigeoaaGreatDoorMg5
/- Package sky: the walk of sorted. -/
namespace Go.Proofs.YteeeikninigeoaaGreatDoor
set_option linter.unusedVariables false
open Go.RowKit Go.Sort

set_option maxRecDepth 100000 in
set_option maxHeartbeats 2000000 in
theorem skySorted_any (a : Option Addr) (cap m : Nat) (L : List Pt) (w : World) (h : SlF ptL 3 w a (m + 1) cap L) (hm : m + 1 ≤ 1000) :
    Calls Tryz.prog 44 #[.slice a (m + 1) cap] w fun e w' => ∃ ra rc O, e = .returned (.slice ra (m + 1) rc) ∧ Kp (IsOrder L O) ∧ Kp (w'.ownsRow w.heap.size 3 1 (.slice ra (m + 1) rc) (m + 1) (ints (O.map Int.ofNat))) ∧ Kp (Below w.heap.size w w') := by
  have HL := Kp.mk (h.len ptL_len (by omega))
  have HA := Kp.mk (below_alloc (Nat.le_refl w.heap.size) (.cells #[.slice a (m + 1) cap] 24))
  have HBX := Kp.mk (Box.new w #[.slice a (m + 1) cap] 24)
  have H := Kp.mk (SlF.below h HA.out)
  have HLT := Kp.mk (show ∀ k, blk a = some k → k < w.heap.size from fun k hk => by
    obtain ⟨k', h1, h2⟩ := SlC.lt h (by rw [flat_length ptL_len, HL.out]; omega)
    rw [h1] at hk; cases hk; exact h2)
  have hsz := alloc_size w (.cells #[.slice a (m + 1) cap] 24)
  have eg : ∀ args w, (callFunc 80 args).run Tryz.prog w = .ok (.enter 80 args) w := enters_of Tryz.func80 (by kernel_rfl) rfl
  clear h
  go_enter Tryz.func44, Tryz.ntmps44
  go_wp2
  obtain ⟨bs, hbs⟩ : ∃ bs, bs = w.heap.size := ⟨_, rfl⟩
  obtain ⟨w1, hw1⟩ : ∃ w1, w1 = w.alloc (.cells #[.slice a (m + 1) cap] 24) := ⟨_, rfl⟩
  rw [← hw1] at HA HBX H hsz ⊢
  rw [← hbs] at HA HBX HLT hsz ⊢
  have HBS := Kp.mk hbs
  have HSZ := Kp.mk hsz
  clear hw1 hbs hsz
  go_loopw [3, 7] (fun x i wr => ∃ (k : Nat) (ra : Option Addr) (rc : Nat), k ≤ m + 1 ∧ i = .int .i64 k ∧ x = .slice ra k rc ∧ Kp (wr.ownsRow (bs + 1) 3 1 (.slice ra k rc) k (ints ((List.range k).map Int.ofNat))) ∧ Kp (Below (bs + 1) w1 wr)) (fun _ i _ => m + 1 - (intOf i).toNat)
  case atStart => exact ⟨0, none, 0, Nat.zero_le _, rfl, rfl, ⟨World.ownsRow_nil _ _ _ _⟩, ⟨Below.refl _ _⟩⟩
  case round =>
    obtain ⟨k, ra, rc, hk, rfl, rfl, HO, HB⟩ := hrel
    by_cases hlt : k < m + 1
    · have hsr : bs + 1 ≤ wr.heap.size := by rw [← HSZ.out]; exact HB.out.size
      go_wp2_with (at_builtin; refine wpList_push tInts rfl _ _ rfl (bs + 1) ra k rc _ rfl HO.out 1 1 _ rfl rfl ?d1 (by decide) ?d2 (by decide) hsr ?d4)
      case d1 => simp [Value.oneCell']
      case d2 => omega
      case d4 =>
        intro ya yc w4 ho4 hb4
        have HO4 := Kp.mk (show w4.ownsRow (bs + 1) 3 1 (.slice ya (k + 1) yc) (k + 1) (ints ((List.range (k + 1)).map Int.ofNat)) from by
          rw [ints_range_succ]; exact ho4)
        have HB4 := Kp.mk (HB.out.trans hb4)
        clear ho4 hb4
        go_wp2
        go_roundw
        case rel => exact ⟨k + 1, ya, yc, by omega, by go_num, rfl, HO4, HB4⟩
        case measure => simp [intOf]; omega
    · obtain rfl : k = m + 1 := by omega
      have hsr : bs + 1 ≤ wr.heap.size := by rw [← HSZ.out]; exact HB.out.size
      have hbr : Below w1.heap.size w1 wr := by rw [HSZ.out]; exact HB.out
      have CS := Kp.mk (sortPl_own 80 #[.pointer (some ⟨bs, 0, none⟩)] L m (bs + 1) ra rc wr HL.out (by omega) eg HO.out hsr (fun w' gb ha hg x y hx hy => by
        have hgb := own_lt HO.out gb (by rw [ha]; rfl)
        refine skyOrd_any bs a cap (m + 1) x y L w' (SlC.keep (SlC.below H.out hbr) hg (fun k hk => by
          cases hk
          intro e
          have h3 : gb < bs := HLT.out gb e
          omega)) (by omega) ?_ hx hy
        have hbx := Box.below HBX.out hbr
        have hbx' : Box w' bs #[.slice a (m + 1) cap] 24 := (hg.block bs hbx.lt (fun e => by cases e; omega)).trans hbx
        exact hbx'.cell 0 rfl))
      go_wp2_with fail
      refine CS.out.mono ?_
      rintro e w2 ⟨rfl, O, HOR, HO2, HG⟩
      have HB2 := Kp.mk (show Below w.heap.size w w2 from by
        have h1 : Below (bs + 1) wr w2 := below_of_grown HG.out hsr (fun k hk => (own_lt HO.out k hk).1)
        rw [← HBS.out]
        exact HA.out.trans ((HB.out.trans h1).mono (by omega)))
      have HO3 := Kp.mk (own_base HO2.out (show bs ≤ bs + 1 by omega))
      go_wp2
      go_ret
      exact ⟨ra, rc, O, rfl, HOR, by rw [← HBS.out]; exact HO3, HB2⟩

end Go.Proofs.YteeeikninigeoaaGreatDoor

/- Package sky: the walk of Layers. -/
namespace Go.Proofs.YteeeikninigeoaaGreatDoor
set_option linter.unusedVariables false
open Go.RowKit

/-- The memory of Layers within its loop. -/
structure LayMem (n0 B3 g gc : Nat) (w wr : World) (a : Option Addr) (cap n : Nat) (L : List Pt) (oa : Option Addr) (oc : Nat) (O : List Nat) (R : List Nat) (ta : Option Addr) (t tc : Nat) (tops : List Int) : Prop where
  ps : SlF ptL 3 wr a n cap L
  ord : SlI wr oa oc (O.map Int.ofNat)
  out : wr.ownsRow n0 3 1 (.slice (some ⟨g, 0, none⟩) n gc) n (ints (R.map Int.ofNat))
  tops : wr.ownsRow B3 3 1 (.slice ta t tc) t (ints tops)
  bel : Below n0 w wr
  psb : ∀ k, blk a = some k → k < n0
  ordb : ∀ k, blk oa = some k → k < B3 ∧ k ≠ g
  gb : n0 ≤ g ∧ g < B3
  sz : B3 ≤ wr.heap.size
section
variable {n0 B3 g gc : Nat} {w wr w' : World} {a : Option Addr} {cap n : Nat} {L : List Pt} {oa : Option Addr} {oc : Nat} {O R : List Nat} {ta : Option Addr} {t tc : Nat} {tops : List Int}
theorem LayMem.below (h : LayMem n0 B3 g gc w wr a cap n L oa oc O R ta t tc tops) (hb : Below wr.heap.size wr w') : LayMem n0 B3 g gc w w' a cap n L oa oc O R ta t tc tops :=
  ⟨h.ps.below hb, h.ord.below hb, own_below h.out hb, own_below h.tops hb, h.bel.trans (hb.mono (by have := h.sz; have := h.gb; omega)), h.psb, h.ordb, h.gb, Nat.le_trans h.sz hb.size⟩
theorem LayMem.push {ta' : Option Addr} {t' tc' : Nat} {tops' : List Int} (h : LayMem n0 B3 g gc w wr a cap n L oa oc O R ta t tc tops) (hg : wr.grownBy w' (blk ta)) (ho : w'.ownsRow B3 3 1 (.slice ta' t' tc') t' (ints tops')) : LayMem n0 B3 g gc w w' a cap n L oa oc O R ta' t' tc' tops' := by
  have hlt := own_lt h.tops
  have hgb := h.gb
  refine ⟨SlC.keep h.ps hg (fun k hk e => ?_), SlC.keep h.ord hg (fun k hk e => ?_), own_keep h.out hg (fun k hk e => ?_), ho, h.bel.trans (below_of_grown hg (by have := h.sz; omega) (fun k hk => by have := (hlt k hk).1; omega)), h.psb, h.ordb, h.gb, Nat.le_trans h.sz hg.size⟩
  · have := h.psb k e; have := (hlt k hk).1; omega
  · have := h.ordb k e; have := (hlt k hk).1; omega
  · have := (hlt k hk).1
    simp only [blk, Option.map_some, Option.some.injEq] at e
    omega
theorem LayMem.store {tb i : Nat} {x : Int} (h : LayMem n0 B3 g gc w wr a cap n L oa oc O R (some ⟨tb, 0, none⟩) t tc tops) : LayMem n0 B3 g gc w (wr.setCell ⟨tb, i, none⟩ (.int .i64 x)) a cap n L oa oc O R (some ⟨tb, 0, none⟩) t tc (tops.set i x) := by
  refine h.push (grown_set wr tb i _) ?_
  rw [← ints_set]
  exact (h.tops.stored i (.int .i64 x)).1
theorem LayMem.put {i x : Nat} (h : LayMem n0 B3 g gc w wr a cap n L oa oc O R ta t tc tops) : LayMem n0 B3 g gc w (wr.setCell ⟨g, i, none⟩ (.int .i64 (x : Int))) a cap n L oa oc O (R.set i x) ta t tc tops := by
  have hg := grown_set wr g i (.int .i64 (x : Int))
  have hgb := h.gb
  refine ⟨SlC.keep h.ps hg (fun k hk e => ?_), SlC.keep h.ord hg (fun k hk e => ?_), ?_, own_keep h.tops hg (fun k hk e => ?_), h.bel.trans (below_of_grown hg (by have := h.sz; omega) (fun k hk => by cases hk; exact hgb.1)), h.psb, h.ordb, h.gb, Nat.le_trans h.sz hg.size⟩
  · cases hk; have := h.psb _ e; omega
  · cases hk; exact (h.ordb _ e).2 rfl
  · rw [List.map_set, ← ints_set]
    exact (h.out.stored i (.int .i64 (x : Int))).1
  · cases hk; have := (own_lt h.tops _ e).1; omega
theorem LayMem.outc (h : LayMem n0 B3 g gc w wr a cap n L oa oc O R ta t tc tops) (hR : R.length = n) (i : Nat) (hi : i < n) : wr.cell? ⟨g, i, none⟩ = some (.int .i64 ((R.getD i 0 : Nat) : Int)) := by
  rw [h.out.cellAt i (by omega), List.getElem?_eq_getElem (by rw [ints_length, List.length_map]; omega), ints_get, getD_at _ _ (by omega)]
  simp
theorem LayMem.topc {tb : Nat} (h : LayMem n0 B3 g gc w wr a cap n L oa oc O R (some ⟨tb, 0, none⟩) t tc tops) (hT : tops.length = t) (i : Nat) (hi : i < t) : wr.cell? ⟨tb, i, none⟩ = some (.int .i64 (tops.getD i 0)) := by
  rw [h.tops.cellAt i (by omega), List.getElem?_eq_getElem (by rw [ints_length]; omega), ints_get, getD_at _ _ (by omega)]
theorem LayMem.box {bp : Nat} {cs : Array Value} {T : TypeId} (h : LayMem n0 B3 g gc w wr a cap n L oa oc O R ta t tc tops) (hb : Box wr bp cs T) (hg : wr.grownBy w' (blk ta)) (hne : T ≠ 3) : Box w' bp cs T :=
  (hg.block bp hb.lt (fun e => by
    rcases h.tops.2 with ⟨hv, _⟩ | ⟨g', _, _, hv, _, hgb, _⟩
    · simp only [Value.slice.injEq] at hv; rw [hv.1] at e; cases e
    · simp only [Value.slice.injEq] at hv
      rw [hv.1] at e
      simp only [blk, Option.map_some, Option.some.injEq] at e
      subst e
      have hb' : wr.heap[bp]? = some (.cells cs T (0, 0)) := hb
      rw [hgb] at hb'
      cases hb'
      exact hne rfl)).trans hb
end
theorem getD_set_same (R : List Nat) (i x : Nat) (h : i < R.length) : (R.set i x).getD i 0 = x := by
  rw [getD_at _ _ (by rw [List.length_set]; exact h), List.getElem_set_self]
theorem getD_set_other (R : List Nat) (i j x : Nat) (h : i ≠ j) : (R.set i x).getD j 0 = R.getD j 0 := by
  simp [List.getD, List.getElem?_set_ne h]
theorem getD_iset_same (R : List Int) (i : Nat) (x : Int) (h : i < R.length) : (R.set i x).getD i 0 = x := by
  rw [getD_at _ _ (by rw [List.length_set]; exact h), List.getElem_set_self]
theorem getD_iset_other (R : List Int) (i j : Nat) (x : Int) (h : i ≠ j) : (R.set i x).getD j 0 = R.getD j 0 := by
  simp [List.getD, List.getElem?_set_ne h]
/-- Those of an order that were met, from its end on. -/
def met (O : List Nat) (j : Nat) : List Nat := O.reverse.take j
theorem met_succ (O : List Nat) (j : Nat) (h : j < O.length) : met O (j + 1) = met O j ++ [O.getD (O.length - 1 - j) 0] := by
  unfold met
  rw [List.take_succ_eq_append_getElem (by rw [List.length_reverse]; exact h), List.getElem_reverse, getD_at _ _ (by omega)]
theorem met_length (O : List Nat) (j : Nat) (h : j ≤ O.length) : (met O j).length = j := by
  unfold met
  rw [List.length_take, List.length_reverse]; omega
theorem met_mem {O : List Nat} {j d : Nat} (h : d ∈ met O j) : ∃ i, i < O.length ∧ O.length - j ≤ i ∧ O.getD i 0 = d := by
  unfold met at h
  obtain ⟨i, hi, rfl⟩ := List.getElem_of_mem h
  rw [List.length_take, List.length_reverse] at hi
  refine ⟨O.length - 1 - i, by omega, by omega, ?_⟩
  rw [List.getElem_take, List.getElem_reverse, getD_at _ _ (by omega)]
theorem mem_met {O : List Nat} {j i : Nat} (h1 : i < O.length) (h2 : O.length - j ≤ i) (h3 : j ≤ O.length) : O.getD i 0 ∈ met O j := by
  unfold met
  have e : O.getD i 0 = (O.reverse.take j)[O.length - 1 - i]'(by rw [List.length_take, List.length_reverse]; omega) := by
    rw [List.getElem_take, List.getElem_reverse, getD_at _ _ h1]
    congr 1; omega
  rw [e]
  exact List.getElem_mem _
/-- What stands ahead in the order is not to the right. -/
theorem IsOrder.lex {L : List Pt} {O : List Nat} (h : IsOrder L O) {j : Nat} (hj : j < O.length) : ∀ d ∈ met O j, lexLe (L.getD (O.getD (O.length - 1 - j) 0) pt0) (L.getD d pt0) := by
  intro d hd
  obtain ⟨i, h1, h2, rfl⟩ := met_mem hd
  exact h.up (O.length - 1 - j) i (by omega) h1
theorem IsOrder.notmet {L : List Pt} {O : List Nat} (h : IsOrder L O) {j : Nat} (hj : j < O.length) : O.getD (O.length - 1 - j) 0 ∉ met O j := by
  intro hd
  obtain ⟨i, h1, h2, e⟩ := met_mem hd
  have hn := h.nodup
  rw [getD_at _ _ h1, getD_at _ _ (by omega)] at e
  exact List.pairwise_iff_getElem.1 hn (O.length - 1 - j) i (by omega) h1 (by omega) e.symm
theorem IsOrder.all {L : List Pt} {O : List Nat} (h : IsOrder L O) : ∀ i, i < L.length → i ∈ met O O.length := by
  intro i hi
  unfold met
  rw [List.take_of_length_le (by simp), List.mem_reverse]
  exact h.perm.mem_iff.2 (List.mem_range.2 hi)
def layOf (R : List Nat) (d : Nat) : Nat := R.getD d 0
def gOf (L : List Pt) (d : Nat) : Pt := L.getD d pt0

theorem LayInv.put_copy {L : List Pt} {O R : List Nat} {tops : List Int} {j n : Nat} (hO : IsOrder L O) (hn : L.length = n) (hR : R.length = n) (hj : j < n) (hj0 : 0 < j) (h : LayInv (gOf L) (met O j) (layOf R) tops)
    (hx : (gOf L (O.getD (n - 1 - j + 1) 0)).x = (gOf L (O.getD (n - 1 - j) 0)).x) (hy : (gOf L (O.getD (n - 1 - j + 1) 0)).y = (gOf L (O.getD (n - 1 - j) 0)).y) :
    LayInv (gOf L) (met O (j + 1)) (layOf (R.set (O.getD (n - 1 - j) 0) (R.getD (O.getD (n - 1 - j + 1) 0) 0))) tops := by
  have hl := hO.len
  rw [met_succ O j (by omega), hl, hn]
  have hi := hO.lt (n - 1 - j) (by omega)
  refine h.copy _ (O.getD (n - 1 - j + 1) 0) (mem_met (by omega) (by omega) (by omega)) hx hy (fun d hd => ?_) ?_
  · refine getD_set_other _ _ _ _ (fun e => ?_)
    have := hO.notmet (j := j) (by omega)
    rw [hl, hn] at this
    rw [← e] at hd
    exact this hd
  · exact getD_set_same _ _ _ (by omega)
theorem LayInv.put_new {L : List Pt} {O R : List Nat} {tops tops' : List Int} {j n q : Nat} (hO : IsOrder L O) (hn : L.length = n) (hR : R.length = n) (hj : j < n) (h : LayInv (gOf L) (met O j) (layOf R) tops)
    (hne : 0 < j → ¬ ((gOf L (O.getD (n - 1 - j + 1) 0)).x = (gOf L (O.getD (n - 1 - j) 0)).x ∧ (gOf L (O.getD (n - 1 - j + 1) 0)).y = (gOf L (O.getD (n - 1 - j) 0)).y))
    (hq : q ≤ tops.length) (n1 : ∀ m, m < q → (gOf L (O.getD (n - 1 - j) 0)).y ≤ tops.getD m 0) (n2 : q < tops.length → tops.getD q 0 < (gOf L (O.getD (n - 1 - j) 0)).y)
    (hl' : tops'.length = if q = tops.length then tops.length + 1 else tops.length) (t1 : ∀ m, m ≠ q → m < tops.length → tops'.getD m 0 = tops.getD m 0) (t2 : tops'.getD q 0 = (gOf L (O.getD (n - 1 - j) 0)).y) :
    LayInv (gOf L) (met O (j + 1)) (layOf (R.set (O.getD (n - 1 - j) 0) q)) tops' := by
  have hl := hO.len
  have hlex := hO.lex (j := j) (by omega)
  rw [hl, hn] at hlex
  rw [met_succ O j (by omega), hl, hn]
  have hi := hO.lt (n - 1 - j) (by omega)
  refine h.new _ q hlex (fun d hd => ?_) hq n1 n2 (fun d hd => ?_) ?_ hl' t1 t2
  · intro hc
    by_cases hj0 : 0 < j
    · apply hne hj0
      obtain ⟨i, h1, h2, e⟩ := met_mem hd
      have h4 := hlex (O.getD (n - 1 - j + 1) 0) (mem_met (by omega) (by omega) (by omega))
      rcases Nat.eq_or_lt_of_le (show n - 1 - j + 1 ≤ i by omega) with e5 | e5
      · rw [e5, e]; exact hc
      · have h5 := hO.up (n - 1 - j + 1) i e5 h1
        rw [e] at h5
        unfold gOf at *
        unfold lexLe at h4 h5
        omega
    · obtain rfl : j = 0 := by omega
      simp [met] at hd
  · refine getD_set_other _ _ _ _ (fun e => ?_)
    have := hO.notmet (j := j) (by omega)
    rw [hl, hn] at this
    rw [← e] at hd
    exact this hd
  · exact getD_set_same _ _ _ (by omega)

end Go.Proofs.YteeeikninigeoaaGreatDoor

/- slices.SortFunc on a row of all places: which order it leaves is a matter of the points. -/
namespace Go.Proofs.YteeeikninigeoaaGreatDoor
set_option linter.unusedVariables false
open Go.RowKit Go.Sort Go.Lib

/-- The order that slices.SortFunc leaves: a matter of the points alone. -/
def detO (m : Nat) (L : List Pt) : List Nat := (pdq (ltOf (cfF m L)) (allF m) 0 (m + 1) (Lib.bitLen (m + 1)) true true).toList.map fun i => i.val
set_option maxHeartbeats 1000000 in
/-- slices.SortFunc on a row of all places of the call's own, by a comparison that reads the points. -/
theorem sortPl_det (g : Nat) (cb : Array Value) (L : List Pt) (m : Nat) (B : Nat) (a : Option Addr) (c : Nat) (w : World) (hL : L.length = m + 1) (hm : m ≤ 1000) (eg : ∀ args w, (callFunc g args).run Tryz.prog w = .ok (.enter g args) w)
    (h : w.ownsRow B 3 1 (.slice a (m + 1) c) (m + 1) (ints ((List.range (m + 1)).map Int.ofNat))) (hB : B ≤ w.heap.size)
    (hcmp : ∀ w' gb, a = some ⟨gb, 0, none⟩ → w.grownBy w' (some gb) → ∀ x y : Nat, x < m + 1 → y < m + 1 → Calls Tryz.prog g (#[.int .i64 x, .int .i64 y] ++ cb) w' fun e w'' => e = .returned (.int .i64 (cmpP L x y)) ∧ ∃ q os, w'' = grow (w'.drewN q) os) :
    Calls Tryz.prog 68 #[.slice a (m + 1) c, .func (.func g) #[] cb] w fun e w' => e = .returned (.tuple #[]) ∧ Kp (IsOrder L (detO m L)) ∧ Kp (w'.ownsRow B 3 1 (.slice a (m + 1) c) (m + 1) (ints ((detO m L).map Int.ofNat))) ∧ Kp (w.grownBy w' (blk a)) := by
  obtain ⟨gb, rfl, hg, hg2⟩ := own_some h (by omega)
  rcases h.2 with ⟨hv, _⟩ | ⟨g', cap', cur, hv, hB', hgb, h1, h2, h3, h4⟩
  · cases hv
  simp only [Value.slice.injEq, Option.some.injEq, Addr.mk.injEq, and_true, true_and] at hv
  obtain ⟨rfl, rfl⟩ := hv
  have hd : (allF m).map (fun i => ((i.val : Nat) : Int)) = ((List.range (m + 1)).map Int.ofNat).toArray := by
    apply Array.toList_inj.1
    rw [Array.toList_map, ← allF_list m, List.map_map]
    rfl
  have hs : (allF m).size = m + 1 := by simp [allF]
  have hH : Holds (encF m) w gb 0 (allF m) := holds_fin (by
    rw [hd]
    exact holds_of_blockI hgb (by
      rw [Nat.mul_one] at h4
      rw [List.length_map, List.length_range]
      exact h4))
  have hC : CmpLays1 Tryz.prog g cb (encF m) (cfF m L) gb 0 (allF m).size w := by
    intro k os dk hk x y
    have hgr : w.grownBy (sortWorld (encF m) w gb 0 k dk os) (some gb) := by
      unfold sortWorld
      rw [putRow_fin]
      exact grownBy_sortedI _
    exact hcmp _ gb rfl hgr x.val y.val x.isLt y.isLt
  have hS := Tryz.slices_SortFunc_eq (encF m) (fun _ => rfl) (cfF m L) (swoF m L) g cb gb 0 c (allF m) w eg hC hH hg2 (by rw [hs]; omega)
  rw [hs] at hS
  refine hS.mono ?_
  rintro e w' ⟨rfl, q, os, rfl⟩
  have hd2 := pdq_sorts (ltOf (cfF m L)) (swoF m L) (allF m) 0 (m + 1) (Lib.bitLen (m + 1)) true true (Nat.zero_le _) (by omega) (Or.inl rfl)
  obtain ⟨d', hdd⟩ : ∃ d', pdq (ltOf (cfF m L)) (allF m) 0 (m + 1) (Lib.bitLen (m + 1)) true true = d' := ⟨_, rfl⟩
  have hdet : detO m L = d'.toList.map (fun i => i.val) := by unfold detO; rw [hdd]
  rw [hdd] at hd2 ⊢
  rw [hdet]
  obtain ⟨hp, hsrt⟩ := hd2
  have hsz : d'.size = m + 1 := by rw [hp.1, hs]
  have hpl : (d'.toList.map fun i => i.val).Perm (List.range (m + 1)) := by
    rw [← allF_list m]
    have := hp.2.2
    rw [ext_all d' _ hsz, ext_all (allF m) _ hs] at this
    exact this.map _
  refine ⟨rfl, ⟨⟨by rw [hL]; exact hpl, ?_⟩⟩, ⟨?_⟩, ⟨?_⟩⟩
  · intro i j hij hj
    rw [List.length_map, Array.length_toList] at hj
    have h5 := hsrt i j (Nat.zero_le _) hij (by omega)
    unfold ltOf cfF at h5
    rw [decide_eq_false_iff_not, cmpP_neg, getElem!_pos d' j hj, getElem!_pos d' i (by omega)] at h5
    have e1 : ∀ k (h : k < d'.size), (d'.toList.map fun i => i.val).getD k 0 = d'[k].val := fun k h => by
      rw [getD_at _ _ (by rw [List.length_map, Array.length_toList]; exact h), List.getElem_map, Array.getElem_toList]
    rw [e1 i (by omega), e1 j hj]
    unfold lexLe
    omega
  · unfold sortWorld
    rw [putRow_fin]
    have e3 : d'.map (fun i => ((i.val : Nat) : Int)) = ((d'.toList.map fun i => i.val).map Int.ofNat).toArray := by
      apply Array.toList_inj.1
      rw [Array.toList_map, List.map_map]
      rfl
    rw [e3]
    have := ownsRow_sortedI (w := w) (base := B) (g := gb) (cap := c) (n := q) (e := 3) (os := os) (cur := cur) (ss := (List.range (m + 1)).map Int.ofNat) (ts := (d'.toList.map fun i => i.val).map Int.ofNat) (by simp [hsz]) hB' hgb (by simp; omega) h2 h3
    rw [List.length_map, List.length_range] at this
    exact this
  · unfold sortWorld
    rw [putRow_fin]
    exact grownBy_sortedI _

/-- The order of so many points. -/
def detN : Nat → List Pt → List Nat
  | 0, _ => []
  | m + 1, L => detO m L
/-- slices.SortFunc on a row of all places, however long: the order is a matter of the points. -/
theorem sortPl_detN (g : Nat) (cb : Array Value) (L : List Pt) (n : Nat) (B : Nat) (a : Option Addr) (c : Nat) (w : World) (hL : L.length = n) (hm : n ≤ 1000) (eg : ∀ args w, (callFunc g args).run Tryz.prog w = .ok (.enter g args) w)
    (h : w.ownsRow B 3 1 (.slice a n c) n (ints ((List.range n).map Int.ofNat))) (hB : B ≤ w.heap.size)
    (hcmp : ∀ w' gb, a = some ⟨gb, 0, none⟩ → w.grownBy w' (some gb) → ∀ x y : Nat, x < n → y < n → Calls Tryz.prog g (#[.int .i64 x, .int .i64 y] ++ cb) w' fun e w'' => e = .returned (.int .i64 (cmpP L x y)) ∧ ∃ q os, w'' = grow (w'.drewN q) os) :
    Calls Tryz.prog 68 #[.slice a n c, .func (.func g) #[] cb] w fun e w' => e = .returned (.tuple #[]) ∧ Kp (IsOrder L (detN n L)) ∧ Kp (w'.ownsRow B 3 1 (.slice a n c) n (ints ((detN n L).map Int.ofNat))) ∧ Kp (w.grownBy w' (blk a)) := by
  rcases n with _ | m
  · refine (sort_none g cb a c w).mono ?_
    rintro e w' ⟨rfl, q, rfl⟩
    obtain rfl : L = [] := List.length_eq_zero_iff.1 hL
    exact ⟨rfl, ⟨⟨List.Perm.refl _, fun i j _ hj => absurd hj (by simp [detN])⟩⟩, ⟨own_below h (Drew.below ⟨q, rfl⟩ _)⟩, ⟨⟨rfl, rfl, rfl, Nat.le_refl _, fun _ _ _ => rfl⟩⟩⟩
  · exact sortPl_det g cb L m B a c w hL (by omega) eg h hB hcmp

end Go.Proofs.YteeeikninigeoaaGreatDoor


import Derived.Test.YtedchegejalolaaGreatDoorMb13
import Derived.Test.YtedchegejalolaaGreatDoorMb28
import Derived.Test.YtedchegejalolaaGreatDoorMb25
import Derived.Test.YtedchegejalolaaGreatDoorMb0
/- slices.SortFunc on a row of all places: which order it leaves is a matter of the points. -/
namespace Go.Proofs.YtedchegejalolaaGreatDoor
set_option linter.unusedVariables false
open Go.RowKit Go.Sort Go.Lib

/-- The order that slices.SortFunc leaves: a matter of the points alone. -/
def detO (m : Nat) (L : List Pt) : List Nat := (pdq (ltOf (cfF m L)) (allF m) 0 (m + 1) (Lib.bitLen (m + 1)) true true).toList.map fun i => i.val
set_option maxHeartbeats 1000000 in
/-- slices.SortFunc on a row of all places of the call's own, by a comparison that reads the points. -/
theorem sortPl_det (g : Nat) (cb : Array Value) (L : List Pt) (m : Nat) (B : Nat) (a : Option Addr) (c : Nat) (w : World) (hL : L.length = m + 1) (hm : m ≤ 1000) (eg : ∀ args w, (callFunc g args).run Tryz.prog w = .ok (.enter g args) w)
    (h : w.ownsRow B 3 1 (.slice a (m + 1) c) (m + 1) (ints ((List.range (m + 1)).map Int.ofNat))) (hB : B ≤ w.heap.size)
    (hcmp : ∀ w' gb, a = some ⟨gb, 0, none⟩ → w.grownBy w' (some gb) → ∀ x y : Nat, x < m + 1 → y < m + 1 → Calls Tryz.prog g (#[.int .i64 x, .int .i64 y] ++ cb) w' fun e w'' => e = .returned (.int .i64 (cmpP L x y)) ∧ ∃ q os, w'' = grow (w'.drewN q) os) :
    Calls Tryz.prog 80 #[.slice a (m + 1) c, .func (.func g) #[] cb] w fun e w' => e = .returned (.tuple #[]) ∧ Kp (IsOrder L (detO m L)) ∧ Kp (w'.ownsRow B 3 1 (.slice a (m + 1) c) (m + 1) (ints ((detO m L).map Int.ofNat))) ∧ Kp (w.grownBy w' (blk a)) := by
  obtain ⟨gb, rfl, hg, hg2⟩ := own_some h (by omega)
  rcases h.2 with ⟨hv, _⟩ | ⟨g', cap', cur, hv, hB', hgb, h1, h2, h3, h4⟩
  · cases hv
  simp only [Value.slice.injEq, Option.some.injEq, Addr.mk.injEq, and_true, true_and] at hv
  obtain ⟨rfl, rfl⟩ := hv
  have hd : (allF m).map (fun i => ((i.val : Nat) : Int)) = ((List.range (m + 1)).map Int.ofNat).toArray := by
    apply Array.toList_inj.1
    rw [Array.toList_map, ← allF_list m, List.map_map]
    rfl
  have hs : (allF m).size = m + 1 := by simp [allF]
  have hH : Holds (encF m) w gb 0 (allF m) := holds_fin (by
    rw [hd]
    exact holds_of_blockI hgb (by
      rw [Nat.mul_one] at h4
      rw [List.length_map, List.length_range]
      exact h4))
  have hC : CmpLays1 Tryz.prog g cb (encF m) (cfF m L) gb 0 (allF m).size w := by
    intro k os dk hk x y
    have hgr : w.grownBy (sortWorld (encF m) w gb 0 k dk os) (some gb) := by
      unfold sortWorld
      rw [putRow_fin]
      exact grownBy_sortedI _
    exact hcmp _ gb rfl hgr x.val y.val x.isLt y.isLt
  have hS := Tryz.slices_SortFunc_eq (encF m) (fun _ => rfl) (cfF m L) (swoF m L) g cb gb 0 c (allF m) w eg hC hH hg2 (by rw [hs]; omega)
  rw [hs] at hS
  refine hS.mono ?_
  rintro e w' ⟨rfl, q, os, rfl⟩
  have hd2 := pdq_sorts (ltOf (cfF m L)) (swoF m L) (allF m) 0 (m + 1) (Lib.bitLen (m + 1)) true true (Nat.zero_le _) (by omega) (Or.inl rfl)
  obtain ⟨d', hdd⟩ : ∃ d', pdq (ltOf (cfF m L)) (allF m) 0 (m + 1) (Lib.bitLen (m + 1)) true true = d' := ⟨_, rfl⟩
  have hdet : detO m L = d'.toList.map (fun i => i.val) := by unfold detO; rw [hdd]
  rw [hdd] at hd2 ⊢
  rw [hdet]
  obtain ⟨hp, hsrt⟩ := hd2
  have hsz : d'.size = m + 1 := by rw [hp.1, hs]
  have hpl : (d'.toList.map fun i => i.val).Perm (List.range (m + 1)) := by
    rw [← allF_list m]
    have := hp.2.2
    rw [ext_all d' _ hsz, ext_all (allF m) _ hs] at this
    exact this.map _
  refine ⟨rfl, ⟨⟨by rw [hL]; exact hpl, ?_⟩⟩, ⟨?_⟩, ⟨?_⟩⟩
  · intro i j hij hj
    rw [List.length_map, Array.length_toList] at hj
    have h5 := hsrt i j (Nat.zero_le _) hij (by omega)
    unfold ltOf cfF at h5
    rw [decide_eq_false_iff_not, cmpP_neg, getElem!_pos d' j hj, getElem!_pos d' i (by omega)] at h5
    have e1 : ∀ k (h : k < d'.size), (d'.toList.map fun i => i.val).getD k 0 = d'[k].val := fun k h => by
      rw [getD_at _ _ (by rw [List.length_map, Array.length_toList]; exact h), List.getElem_map, Array.getElem_toList]
    rw [e1 i (by omega), e1 j hj]
    unfold lexLe
    omega
  · unfold sortWorld
    rw [putRow_fin]
    have e3 : d'.map (fun i => ((i.val : Nat) : Int)) = ((d'.toList.map fun i => i.val).map Int.ofNat).toArray := by
      apply Array.toList_inj.1
      rw [Array.toList_map, List.map_map]
      rfl
    rw [e3]
    have := ownsRow_sortedI (w := w) (base := B) (g := gb) (cap := c) (n := q) (e := 3) (os := os) (cur := cur) (ss := (List.range (m + 1)).map Int.ofNat) (ts := (d'.toList.map fun i => i.val).map Int.ofNat) (by simp [hsz]) hB' hgb (by simp; omega) h2 h3
    rw [List.length_map, List.length_range] at this
    exact this
  · unfold sortWorld
    rw [putRow_fin]
    exact grownBy_sortedI _

/-- The order of so many points. -/
def detN : Nat → List Pt → List Nat
  | 0, _ => []
  | m + 1, L => detO m L
/-- slices.SortFunc on a row of all places, however long: the order is a matter of the points. -/
theorem sortPl_detN (g : Nat) (cb : Array Value) (L : List Pt) (n : Nat) (B : Nat) (a : Option Addr) (c : Nat) (w : World) (hL : L.length = n) (hm : n ≤ 1000) (eg : ∀ args w, (callFunc g args).run Tryz.prog w = .ok (.enter g args) w)
    (h : w.ownsRow B 3 1 (.slice a n c) n (ints ((List.range n).map Int.ofNat))) (hB : B ≤ w.heap.size)
    (hcmp : ∀ w' gb, a = some ⟨gb, 0, none⟩ → w.grownBy w' (some gb) → ∀ x y : Nat, x < n → y < n → Calls Tryz.prog g (#[.int .i64 x, .int .i64 y] ++ cb) w' fun e w'' => e = .returned (.int .i64 (cmpP L x y)) ∧ ∃ q os, w'' = grow (w'.drewN q) os) :
    Calls Tryz.prog 80 #[.slice a n c, .func (.func g) #[] cb] w fun e w' => e = .returned (.tuple #[]) ∧ Kp (IsOrder L (detN n L)) ∧ Kp (w'.ownsRow B 3 1 (.slice a n c) n (ints ((detN n L).map Int.ofNat))) ∧ Kp (w.grownBy w' (blk a)) := by
  rcases n with _ | m
  · refine (sort_none g cb a c w).mono ?_
    rintro e w' ⟨rfl, q, rfl⟩
    obtain rfl : L = [] := List.length_eq_zero_iff.1 hL
    exact ⟨rfl, ⟨⟨List.Perm.refl _, fun i j _ hj => absurd hj (by simp [detN])⟩⟩, ⟨own_below h (Drew.below ⟨q, rfl⟩ _)⟩, ⟨⟨rfl, rfl, rfl, Nat.le_refl _, fun _ _ _ => rfl⟩⟩⟩
  · exact sortPl_det g cb L m B a c w hL (by omega) eg h hB hcmp

end Go.Proofs.YtedchegejalolaaGreatDoor

/- Package sky: the walk of sorted: which order it is, is a matter of the points. -/
namespace Go.Proofs.YtedchegejalolaaGreatDoor
set_option linter.unusedVariables false
open Go.RowKit Go.Sort

set_option maxRecDepth 100000 in
set_option maxHeartbeats 2000000 in
theorem skySorted_det (a : Option Addr) (cap n : Nat) (L : List Pt) (w : World) (h : SlF ptL 3 w a (n) cap L) (hm : n ≤ 1000) :
    Calls Tryz.prog 53 #[.slice a (n) cap] w fun e w' => ∃ ra rc, e = .returned (.slice ra (n) rc) ∧ Kp (IsOrder L (detN n L)) ∧ Kp (w'.ownsRow w.heap.size 3 1 (.slice ra (n) rc) (n) (ints ((detN n L).map Int.ofNat))) ∧ Kp (Below w.heap.size w w') := by
  have HL := Kp.mk (h.len ptL_len (by omega))
  have HA := Kp.mk (below_alloc (Nat.le_refl w.heap.size) (.cells #[.slice a (n) cap] 42))
  have HBX := Kp.mk (Box.new w #[.slice a (n) cap] 42)
  have H := Kp.mk (SlF.below h HA.out)
  have HLT := Kp.mk (show 0 < n → ∀ k, blk a = some k → k < w.heap.size from fun h0 k hk => by
    obtain ⟨k', h1, h2⟩ := SlC.lt h (by rw [flat_length ptL_len, HL.out]; omega)
    rw [h1] at hk; cases hk; exact h2)
  have hsz := alloc_size w (.cells #[.slice a (n) cap] 42)
  have eg : ∀ args w, (callFunc 81 args).run Tryz.prog w = .ok (.enter 81 args) w := enters_of Tryz.func81 (by kernel_rfl) rfl
  clear h
  go_enter Tryz.func53, Tryz.ntmps53
  go_wp2
  obtain ⟨bs, hbs⟩ : ∃ bs, bs = w.heap.size := ⟨_, rfl⟩
  obtain ⟨w1, hw1⟩ : ∃ w1, w1 = w.alloc (.cells #[.slice a (n) cap] 42) := ⟨_, rfl⟩
  rw [← hw1] at HA HBX H hsz ⊢
  rw [← hbs] at HA HBX HLT hsz ⊢
  have HBS := Kp.mk hbs
  have HSZ := Kp.mk hsz
  clear hw1 hbs hsz
  go_loopw [3, 7] (fun x i wr => ∃ (k : Nat) (ra : Option Addr) (rc : Nat), k ≤ n ∧ i = .int .i64 k ∧ x = .slice ra k rc ∧ Kp (wr.ownsRow (bs + 1) 3 1 (.slice ra k rc) k (ints ((List.range k).map Int.ofNat))) ∧ Kp (Below (bs + 1) w1 wr)) (fun _ i _ => n - (intOf i).toNat)
  case atStart => exact ⟨0, none, 0, Nat.zero_le _, rfl, rfl, ⟨World.ownsRow_nil _ _ _ _⟩, ⟨Below.refl _ _⟩⟩
  case round =>
    obtain ⟨k, ra, rc, hk, rfl, rfl, HO, HB⟩ := hrel
    by_cases hlt : k < n
    · have hsr : bs + 1 ≤ wr.heap.size := by rw [← HSZ.out]; exact HB.out.size
      go_wp2_with (at_builtin; refine wpList_push tInts rfl _ _ rfl (bs + 1) ra k rc _ rfl HO.out 1 1 _ rfl rfl ?d1 (by decide) ?d2 (by decide) hsr ?d4)
      case d1 => simp [Value.oneCell']
      case d2 => omega
      case d4 =>
        intro ya yc w4 ho4 hb4
        have HO4 := Kp.mk (show w4.ownsRow (bs + 1) 3 1 (.slice ya (k + 1) yc) (k + 1) (ints ((List.range (k + 1)).map Int.ofNat)) from by
          rw [ints_range_succ]; exact ho4)
        have HB4 := Kp.mk (HB.out.trans hb4)
        clear ho4 hb4
        go_wp2
        go_roundw
        case rel => exact ⟨k + 1, ya, yc, by omega, by go_num, rfl, HO4, HB4⟩
        case measure => simp [intOf]; omega
    · obtain rfl : n = k := by omega
      have hsr : bs + 1 ≤ wr.heap.size := by rw [← HSZ.out]; exact HB.out.size
      have hbr : Below w1.heap.size w1 wr := by rw [HSZ.out]; exact HB.out
      have CS := Kp.mk (sortPl_detN 81 #[.pointer (some ⟨bs, 0, none⟩)] L n (bs + 1) ra rc wr HL.out (by omega) eg HO.out hsr (fun w' gb ha hg x y hx hy => by
        have hgb := own_lt HO.out gb (by rw [ha]; rfl)
        refine skyOrd_any bs a cap (n) x y L w' (SlC.keep (SlC.below H.out hbr) hg (fun k hk => by
          cases hk
          intro e
          have h3 : gb < bs := HLT.out (by omega) gb e
          omega)) (by omega) ?_ hx hy
        have hbx := Box.below HBX.out hbr
        have hbx' : Box w' bs #[.slice a (n) cap] 42 := (hg.block bs hbx.lt (fun e => by cases e; omega)).trans hbx
        exact hbx'.cell 0 rfl))
      go_wp2_with fail
      refine CS.out.mono ?_
      rintro e w2 ⟨rfl, HOR, HO2, HG⟩
      have HB2 := Kp.mk (show Below w.heap.size w w2 from by
        have h1 : Below (bs + 1) wr w2 := below_of_grown HG.out hsr (fun k hk => (own_lt HO.out k hk).1)
        rw [← HBS.out]
        exact HA.out.trans ((HB.out.trans h1).mono (by omega)))
      have HO3 := Kp.mk (own_base HO2.out (show bs ≤ bs + 1 by omega))
      go_wp2
      go_ret
      exact ⟨ra, rc, rfl, HOR, by rw [← HBS.out]; exact HO3, HB2⟩

end Go.Proofs.YtedchegejalolaaGreatDoor

/- Plain facts on the greatest of a range. -/
namespace Go.Proofs.YtedchegejalolaaGreatDoor
set_option linter.unusedVariables false

/-- The number at a place. -/
def at0 (l : List Int) (i : Nat) : Int := l.getD i 0
/-- Place t is the top of n places from a on. -/
def IsTop (l : List Int) (a n t : Nat) : Prop := a ≤ t ∧ t < a + n ∧ ∀ j, a ≤ j → j < a + n → at0 l j < at0 l t ∨ (at0 l j = at0 l t ∧ t ≤ j)
theorem IsTop.join {l : List Int} {a n b m s t N : Nat} (h : IsTop l a n s) (h' : IsTop l b m t) (h1 : a ≤ b) (h2 : b ≤ a + n) (h3 : a + n ≤ b + m) (hN : a + N = b + m) :
    IsTop l a N (if at0 l s < at0 l t then t else s) := by
  by_cases hc : at0 l s < at0 l t
  · rw [if_pos hc]
    refine ⟨by have := h'.1; omega, by have := h'.2.1; omega, fun j ha hb => ?_⟩
    by_cases hj : j < b
    · have := h.2.2 j ha (by omega); omega
    · exact h'.2.2 j (by omega) (by omega)
  · rw [if_neg hc]
    refine ⟨h.1, by have := h.2.1; omega, fun j ha hb => ?_⟩
    by_cases hj : j < a + n
    · exact h.2.2 j ha hj
    · have e1 := h'.2.2 j (by omega) (by omega)
      have e2 := h.2.1
      omega
theorem IsTop.one (l : List Int) (a : Nat) : IsTop l a 1 a := by
  refine ⟨Nat.le_refl _, by omega, fun j h1 h2 => ?_⟩
  obtain rfl : j = a := by omega
  omega
end Go.Proofs.YtedchegejalolaaGreatDoor

/- Plain facts on piles: places one on the other, that fall. -/
namespace Go.Proofs.YtedchegejalolaaGreatDoor
set_option linter.unusedVariables false

/-- The place that lies on top of a pile. -/
def tip (p : List Nat) : Nat := p.getLastD 0
theorem tip_snoc (p : List Nat) (x : Nat) : tip (p ++ [x]) = x := by simp [tip]
theorem tip_get {p : List Nat} (h : p ≠ []) : p[p.length - 1]'(by have := List.length_pos_iff.2 h; omega) = tip p := by
  unfold tip
  rw [List.getLastD_eq_getLast?, List.getLast?_eq_some_getLast h, Option.getD_some, List.getLast_eq_getElem]
/-- The first pile whose top is not below v. -/
def slot (l : List Int) (v : Int) (ps : List (List Nat)) : Nat := ps.findIdx fun p => decide (v ≤ at0 l (tip p))
theorem slot_le (l : List Int) (v : Int) (ps : List (List Nat)) : slot l v ps ≤ ps.length := List.findIdx_le_length
theorem findIdx_uniq {α : Type _} (f : α → Bool) (l : List α) (k : Nat) (hk : k ≤ l.length) (h1 : ∀ i (hi : i < l.length), i < k → f l[i] = false) (h2 : ∀ h : k < l.length, f l[k] = true) : l.findIdx f = k := by
  induction l generalizing k with
  | nil => simp at hk; simp [hk]
  | cons x l ih =>
    cases k with
    | zero =>
      have := h2 (by simp)
      rw [List.findIdx_cons]
      simp only [List.getElem_cons_zero] at this
      simp [this]
    | succ k =>
      have h0 := h1 0 (by simp) (by omega)
      simp only [List.getElem_cons_zero] at h0
      rw [List.findIdx_cons, h0]
      simp only [cond_false]
      rw [ih k (by simpa using hk) (fun i hi hik => h1 (i + 1) (by simpa using hi) (by omega)) (fun h => h2 (by simpa using h))]
def putP (ps : List (List Nat)) (k i : Nat) : List (List Nat) := if k < ps.length then ps.set k (ps.getD k [] ++ [i]) else ps ++ [[i]]
/-- y stands just under x, in the pile ahead of its own. -/
def Back (l : List Int) (p : List Nat) (x : Nat) : Prop := ∃ j, ∃ h : j < p.length, p[j] < x ∧ at0 l p[j] < at0 l x ∧ ∀ i (hi : i < p.length), j < i → x < p[i]
structure PInv (l : List Int) (i : Nat) (ps : List (List Nat)) : Prop where
  ne : ∀ p ∈ ps, p ≠ []
  lt : ∀ p ∈ ps, ∀ x ∈ p, x < i
  inc : ∀ p ∈ ps, p.Pairwise (· < ·)
  fall : ∀ p ∈ ps, p.Pairwise fun x y => at0 l y ≤ at0 l x
  tops : ps.Pairwise fun p q => at0 l (tip p) < at0 l (tip q)
  sum : (ps.map List.length).sum = i
  all : ∀ x, x < i → ∃ p ∈ ps, x ∈ p
  back : ∀ k (h : k + 1 < ps.length), ∀ x ∈ ps[k + 1], Back l ps[k] x
theorem PInv.nil (l : List Int) : PInv l 0 [] := ⟨by simp, by simp, by simp, by simp, .nil, rfl, fun x h => by omega, fun k h => by simp at h⟩
theorem sum_set {ps : List (List Nat)} {k : Nat} (h : k < ps.length) (q : List Nat) : ((ps.set k q).map List.length).sum + ps[k].length = (ps.map List.length).sum + q.length := by
  induction ps generalizing k with
  | nil => simp at h
  | cons p ps ih =>
    cases k with
    | zero => simp; omega
    | succ k =>
      have := ih (k := k) (by simpa using h)
      simp only [List.set_cons_succ, List.map_cons, List.sum_cons, List.getElem_cons_succ] at *
      omega
theorem slot_lo {l : List Int} {v : Int} {ps : List (List Nat)} {j : Nat} (hj : j < slot l v ps) (hl : j < ps.length) : at0 l (tip ps[j]) < v := by
  have := List.not_of_lt_findIdx (p := fun p => decide (v ≤ at0 l (tip p))) hj
  simp at this
  exact this
theorem slot_at {l : List Int} {v : Int} {ps : List (List Nat)} (hl : slot l v ps < ps.length) : v ≤ at0 l (tip ps[slot l v ps]) := by
  have := List.findIdx_getElem (p := fun p => decide (v ≤ at0 l (tip p))) (w := hl)
  exact of_decide_eq_true this
theorem back_tip {l : List Int} {p : List Nat} {i : Nat} (hne : p ≠ []) (hinc : p.Pairwise (· < ·)) (hlt : ∀ x ∈ p, x < i) (hv : at0 l (tip p) < at0 l i) : Back l p i := by
  have hpos := List.length_pos_iff.2 hne
  refine ⟨p.length - 1, by omega, ?_, ?_, fun j hj hlt => by omega⟩
  · exact hlt _ (List.getElem_mem _)
  · rw [tip_get hne]; exact hv
theorem back_snoc {l : List Int} {p : List Nat} {x i : Nat} (h : Back l p x) (hx : x < i) : Back l (p ++ [i]) x := by
  obtain ⟨j, hj, h1, h2, h3⟩ := h
  refine ⟨j, by simp; omega, by rw [List.getElem_append_left hj]; exact h1, by rw [List.getElem_append_left hj]; exact h2, fun k hk hjk => ?_⟩
  by_cases hkl : k < p.length
  · rw [List.getElem_append_left hkl]; exact h3 k hkl hjk
  · rw [List.getElem_append_right (by omega)]
    simpa using hx
theorem PInv.step {l : List Int} {i : Nat} {ps : List (List Nat)} (h : PInv l i ps) : PInv l (i + 1) (putP ps (slot l (at0 l i) ps) i) := by
  unfold putP
  have hle := slot_le l (at0 l i) ps
  have hlo := fun j (hj : j < slot l (at0 l i) ps) (hl : j < ps.length) => slot_lo hj hl
  have hat := fun hl => slot_at (l := l) (v := at0 l i) (ps := ps) hl
  generalize slot l (at0 l i) ps = k at *
  have htp := List.pairwise_iff_getElem.1 h.tops
  by_cases hk : k < ps.length
  · rw [if_pos hk, getD_at ps [] hk]
    have hkm := List.getElem_mem hk
    have hv := hat hk
    have hne := h.ne _ hkm
    have hmem : ∀ q ∈ ps.set k (ps[k] ++ [i]), q = ps[k] ++ [i] ∨ q ∈ ps := fun q hq => by
      rcases List.mem_or_eq_of_mem_set hq with h1 | h1
      · exact .inr h1
      · exact .inl h1
    refine ⟨fun q hq => ?_, fun q hq x hx => ?_, fun q hq => ?_, fun q hq => ?_, ?_, ?_, fun x hx => ?_, fun j hj x hx => ?_⟩
    · rcases hmem q hq with rfl | hq
      · simp
      · exact h.ne q hq
    · rcases hmem q hq with rfl | hq
      · rcases List.mem_append.1 hx with hx | hx
        · have := h.lt _ hkm x hx; omega
        · rw [List.mem_singleton.1 hx]; omega
      · have := h.lt q hq x hx; omega
    · rcases hmem q hq with rfl | hq
      · exact List.pairwise_append.2 ⟨h.inc _ hkm, by simp, fun a ha b hb => by rw [List.mem_singleton.1 hb]; exact h.lt _ hkm a ha⟩
      · exact h.inc q hq
    · rcases hmem q hq with rfl | hq
      · refine List.pairwise_append.2 ⟨h.fall _ hkm, by simp, fun a ha b hb => ?_⟩
        rw [List.mem_singleton.1 hb]
        -- the top is the least of the pile
        have hmin : at0 l (tip ps[k]) ≤ at0 l a := by
          obtain ⟨j, hj, rfl⟩ := List.mem_iff_getElem.1 ha
          rw [← tip_get hne]
          by_cases e : j = ps[k].length - 1
          · subst e; exact Int.le_refl _
          · exact List.pairwise_iff_getElem.1 (h.fall _ hkm) j _ hj (by omega) (by omega)
        omega
      · exact h.fall q hq
    · refine List.pairwise_iff_getElem.2 fun a b ha hb hab => ?_
      rw [List.length_set] at ha hb
      rw [List.getElem_set, List.getElem_set]
      have h0 := htp a b ha hb hab
      by_cases e1 : k = a
      · subst e1
        rw [if_pos rfl, if_neg (by omega), tip_snoc]
        omega
      · by_cases e2 : k = b
        · subst e2
          rw [if_neg e1, if_pos rfl, tip_snoc]
          exact hlo a hab ha
        · rw [if_neg e1, if_neg e2]; exact h0
    · have := sum_set hk (ps[k] ++ [i])
      have := h.sum
      simp only [List.length_append, List.length_singleton] at *
      omega
    · by_cases hxi : x = i
      · subst hxi
        exact ⟨ps[k] ++ [x], List.mem_iff_getElem.2 ⟨k, by simpa using hk, by simp⟩, by simp⟩
      · obtain ⟨p, hp, hxp⟩ := h.all x (by omega)
        obtain ⟨j, hj, rfl⟩ := List.mem_iff_getElem.1 hp
        by_cases e : k = j
        · subst e
          exact ⟨ps[k] ++ [i], List.mem_iff_getElem.2 ⟨k, by simpa using hk, by simp⟩, by simp [hxp]⟩
        · exact ⟨ps[j], List.mem_iff_getElem.2 ⟨j, by simpa using hj, by rw [List.getElem_set, if_neg e]⟩, hxp⟩
    · rw [List.length_set] at hj
      rw [List.getElem_set] at hx
      rw [List.getElem_set]
      by_cases e1 : k = j + 1
      · subst e1
        rw [if_pos rfl] at hx
        rw [if_neg (by omega)]
        rcases List.mem_append.1 hx with hx | hx
        · exact h.back j hk x hx
        · rw [List.mem_singleton.1 hx]
          have hjm := List.getElem_mem (show j < ps.length by omega)
          exact back_tip (h.ne _ hjm) (h.inc _ hjm) (h.lt _ hjm) (hlo j (by omega) (by omega))
      · rw [if_neg e1] at hx
        have hb := h.back j hj x hx
        by_cases e2 : k = j
        · subst e2
          rw [if_pos rfl]
          exact back_snoc hb (h.lt _ (List.getElem_mem hj) x hx)
        · rw [if_neg e2]; exact hb
  · rw [if_neg hk]
    have hkl : k = ps.length := by omega
    subst hkl
    refine ⟨fun q hq => ?_, fun q hq x hx => ?_, fun q hq => ?_, fun q hq => ?_, ?_, ?_, fun x hx => ?_, fun j hj x hx => ?_⟩
    · rcases List.mem_append.1 hq with hq | hq
      · exact h.ne q hq
      · rw [List.mem_singleton.1 hq]; simp
    · rcases List.mem_append.1 hq with hq | hq
      · have := h.lt q hq x hx; omega
      · rw [List.mem_singleton.1 hq] at hx; rw [List.mem_singleton.1 hx]; omega
    · rcases List.mem_append.1 hq with hq | hq
      · exact h.inc q hq
      · rw [List.mem_singleton.1 hq]; simp
    · rcases List.mem_append.1 hq with hq | hq
      · exact h.fall q hq
      · rw [List.mem_singleton.1 hq]; simp
    · refine List.pairwise_append.2 ⟨h.tops, by simp, fun p hp q hq => ?_⟩
      rw [List.mem_singleton.1 hq]
      obtain ⟨j, hj, rfl⟩ := List.mem_iff_getElem.1 hp
      exact hlo j hj hj
    · have := h.sum
      simp [List.sum_append] at *
      omega
    · by_cases hxi : x = i
      · exact ⟨[i], by simp, by simp [hxi]⟩
      · obtain ⟨p, hp, hxp⟩ := h.all x (by omega)
        exact ⟨p, by simp [hp], hxp⟩
    · rw [List.length_append, List.length_singleton] at hj
      by_cases e : j + 1 < ps.length
      · rw [List.getElem_append_left e] at hx
        rw [List.getElem_append_left (by omega)]
        exact h.back j e x hx
      · rw [List.getElem_append_right (by omega)] at hx
        rw [List.getElem_append_left (by omega)]
        simp at hx
        subst hx
        have hjm := List.getElem_mem (show j < ps.length by omega)
        exact back_tip (h.ne _ hjm) (h.inc _ hjm) (h.lt _ hjm) (hlo j (by omega) (by omega))
end Go.Proofs.YtedchegejalolaaGreatDoor


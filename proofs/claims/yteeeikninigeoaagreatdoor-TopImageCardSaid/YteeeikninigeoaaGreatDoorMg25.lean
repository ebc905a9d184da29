import Derived.Test.YteeeikninigeoaaGreatDoorMg23
import Derived.Test.YteeeikninigeoaaGreatDoorMg24
import Derived.Test.YteeeikninigeoaaGreatDoorMg0
/- Package sky: the walk of sorted: which order it is, is a matter of the points. -/
namespace Go.Proofs.YteeeikninigeoaaGreatDoor
set_option linter.unusedVariables false
open Go.RowKit Go.Sort

set_option maxRecDepth 100000 in
set_option maxHeartbeats 2000000 in
theorem skySorted_det (a : Option Addr) (cap n : Nat) (L : List Pt) (w : World) (h : SlF ptL 3 w a (n) cap L) (hm : n ≤ 1000) :
    Calls Tryz.prog 44 #[.slice a (n) cap] w fun e w' => ∃ ra rc, e = .returned (.slice ra (n) rc) ∧ Kp (IsOrder L (detN n L)) ∧ Kp (w'.ownsRow w.heap.size 3 1 (.slice ra (n) rc) (n) (ints ((detN n L).map Int.ofNat))) ∧ Kp (Below w.heap.size w w') := by
  have HL := Kp.mk (h.len ptL_len (by omega))
  have HA := Kp.mk (below_alloc (Nat.le_refl w.heap.size) (.cells #[.slice a (n) cap] 24))
  have HBX := Kp.mk (Box.new w #[.slice a (n) cap] 24)
  have H := Kp.mk (SlF.below h HA.out)
  have HLT := Kp.mk (show 0 < n → ∀ k, blk a = some k → k < w.heap.size from fun h0 k hk => by
    obtain ⟨k', h1, h2⟩ := SlC.lt h (by rw [flat_length ptL_len, HL.out]; omega)
    rw [h1] at hk; cases hk; exact h2)
  have hsz := alloc_size w (.cells #[.slice a (n) cap] 24)
  have eg : ∀ args w, (callFunc 80 args).run Tryz.prog w = .ok (.enter 80 args) w := enters_of Tryz.func80 (by kernel_rfl) rfl
  clear h
  go_enter Tryz.func44, Tryz.ntmps44
  go_wp2
  obtain ⟨bs, hbs⟩ : ∃ bs, bs = w.heap.size := ⟨_, rfl⟩
  obtain ⟨w1, hw1⟩ : ∃ w1, w1 = w.alloc (.cells #[.slice a (n) cap] 24) := ⟨_, rfl⟩
  rw [← hw1] at HA HBX H hsz ⊢
  rw [← hbs] at HA HBX HLT hsz ⊢
  have HBS := Kp.mk hbs
  have HSZ := Kp.mk hsz
  clear hw1 hbs hsz
  go_loopw [3, 7] (fun x i wr => ∃ (k : Nat) (ra : Option Addr) (rc : Nat), k ≤ n ∧ i = .int .i64 k ∧ x = .slice ra k rc ∧ Kp (wr.ownsRow (bs + 1) 3 1 (.slice ra k rc) k (ints ((List.range k).map Int.ofNat))) ∧ Kp (Below (bs + 1) w1 wr)) (fun _ i _ => n - (intOf i).toNat)
  case atStart => exact ⟨0, none, 0, Nat.zero_le _, rfl, rfl, ⟨World.ownsRow_nil _ _ _ _⟩, ⟨Below.refl _ _⟩⟩
  case round =>
    obtain ⟨k, ra, rc, hk, rfl, rfl, HO, HB⟩ := hrel
    by_cases hlt : k < n
    · have hsr : bs + 1 ≤ wr.heap.size := by rw [← HSZ.out]; exact HB.out.size
      go_wp2_with (at_builtin; refine wpList_push tInts rfl _ _ rfl (bs + 1) ra k rc _ rfl HO.out 1 1 _ rfl rfl ?d1 (by decide) ?d2 (by decide) hsr ?d4)
      case d1 => simp [Value.oneCell']
      case d2 => omega
      case d4 =>
        intro ya yc w4 ho4 hb4
        have HO4 := Kp.mk (show w4.ownsRow (bs + 1) 3 1 (.slice ya (k + 1) yc) (k + 1) (ints ((List.range (k + 1)).map Int.ofNat)) from by
          rw [ints_range_succ]; exact ho4)
        have HB4 := Kp.mk (HB.out.trans hb4)
        clear ho4 hb4
        go_wp2
        go_roundw
        case rel => exact ⟨k + 1, ya, yc, by omega, by go_num, rfl, HO4, HB4⟩
        case measure => simp [intOf]; omega
    · obtain rfl : n = k := by omega
      have hsr : bs + 1 ≤ wr.heap.size := by rw [← HSZ.out]; exact HB.out.size
      have hbr : Below w1.heap.size w1 wr := by rw [HSZ.out]; exact HB.out
      have CS := Kp.mk (sortPl_detN 80 #[.pointer (some ⟨bs, 0, none⟩)] L n (bs + 1) ra rc wr HL.out (by omega) eg HO.out hsr (fun w' gb ha hg x y hx hy => by
        have hgb := own_lt HO.out gb (by rw [ha]; rfl)
        refine skyOrd_any bs a cap (n) x y L w' (SlC.keep (SlC.below H.out hbr) hg (fun k hk => by
          cases hk
          intro e
          have h3 : gb < bs := HLT.out (by omega) gb e
          omega)) (by omega) ?_ hx hy
        have hbx := Box.below HBX.out hbr
        have hbx' : Box w' bs #[.slice a (n) cap] 24 := (hg.block bs hbx.lt (fun e => by cases e; omega)).trans hbx
        exact hbx'.cell 0 rfl))
      go_wp2_with fail
      refine CS.out.mono ?_
      rintro e w2 ⟨rfl, HOR, HO2, HG⟩
      have HB2 := Kp.mk (show Below w.heap.size w w2 from by
        have h1 : Below (bs + 1) wr w2 := below_of_grown HG.out hsr (fun k hk => (own_lt HO.out k hk).1)
        rw [← HBS.out]
        exact HA.out.trans ((HB.out.trans h1).mono (by omega)))
      have HO3 := Kp.mk (own_base HO2.out (show bs ≤ bs + 1 by omega))
      go_wp2
      go_ret
      exact ⟨ra, rc, rfl, HOR, by rw [← HBS.out]; exact HO3, HB2⟩

end Go.Proofs.YteeeikninigeoaaGreatDoor

/- Plain facts on the greatest of a range. -/
namespace Go.Proofs.YteeeikninigeoaaGreatDoor
set_option linter.unusedVariables false

/-- The number at a place. -/
def at0 (l : List Int) (i : Nat) : Int := l.getD i 0
theorem at0_get {l : List Int} {i : Nat} (h : i < l.length) : at0 l i = l[i] := getD_at l 0 h
/-- Place t is the top of n places from a on. -/
def IsTop (l : List Int) (a n t : Nat) : Prop := a ≤ t ∧ t < a + n ∧ ∀ j, a ≤ j → j < a + n → at0 l j < at0 l t ∨ (at0 l j = at0 l t ∧ t ≤ j)
def tix (l : List Int) (i : Nat) : Nat → Nat
  | 0 => i
  | w + 1 => if at0 l (tix l i w) < at0 l (i + w) then i + w else tix l i w
theorem IsTop.uniq {l : List Int} {a n s t : Nat} (h : IsTop l a n s) (h' : IsTop l a n t) : s = t := by
  have h1 := h.2.2 t h'.1 h'.2.1
  have h2 := h'.2.2 s h.1 h.2.1
  omega
theorem IsTop.join {l : List Int} {a n b m s t N : Nat} (h : IsTop l a n s) (h' : IsTop l b m t) (h1 : a ≤ b) (h2 : b ≤ a + n) (h3 : a + n ≤ b + m) (hN : a + N = b + m) :
    IsTop l a N (if at0 l s < at0 l t then t else s) := by
  by_cases hc : at0 l s < at0 l t
  · rw [if_pos hc]
    refine ⟨by have := h'.1; omega, by have := h'.2.1; omega, fun j ha hb => ?_⟩
    by_cases hj : j < b
    · have := h.2.2 j ha (by omega); omega
    · exact h'.2.2 j (by omega) (by omega)
  · rw [if_neg hc]
    refine ⟨h.1, by have := h.2.1; omega, fun j ha hb => ?_⟩
    by_cases hj : j < a + n
    · exact h.2.2 j ha hj
    · have e1 := h'.2.2 j (by omega) (by omega)
      have e2 := h.2.1
      omega
theorem IsTop.one (l : List Int) (a : Nat) : IsTop l a 1 a := by
  refine ⟨Nat.le_refl _, by omega, fun j h1 h2 => ?_⟩
  obtain rfl : j = a := by omega
  omega
theorem tix_one (l : List Int) (a : Nat) : tix l a 1 = a := by
  simp [tix]
theorem tix_top (l : List Int) (a n : Nat) (h : 0 < n) : IsTop l a n (tix l a n) := by
  induction n with
  | zero => omega
  | succ n ih =>
    by_cases hn : n = 0
    · subst hn; rw [tix_one]; exact .one l a
    · exact (ih (by omega)).join (.one l (a + n)) (by omega) (by omega) (by omega) (by omega)
theorem tix_bd (l : List Int) (a n : Nat) (h : 0 < n) : a ≤ tix l a n ∧ tix l a n < a + n := ⟨(tix_top l a n h).1, (tix_top l a n h).2.1⟩
theorem IsTop.eq {l : List Int} {a n t : Nat} (h : IsTop l a n t) : t = tix l a n := h.uniq (tix_top l a n (by have := h.1; have := h.2.1; omega))
/-- The top of two parts that meet, or lie over each other. -/
theorem tix_join (l : List Int) (a n b m N : Nat) (hn : 0 < n) (hm : 0 < m) (h1 : a ≤ b) (h2 : b ≤ a + n) (h3 : a + n ≤ b + m) (hN : a + N = b + m) :
    (if at0 l (tix l a n) < at0 l (tix l b m) then tix l b m else tix l a n) = tix l a N :=
  ((tix_top l a n hn).join (tix_top l b m hm) h1 h2 h3 hN).eq

/-- Tops of all ranges of 2^k places. -/
def rowT (l : List Int) (k : Nat) : List Int := (List.range (l.length + 1 - 2 ^ k)).map fun i => (tix l i (2 ^ k) : Int)
theorem rowT_length (l : List Int) (k : Nat) : (rowT l k).length = l.length + 1 - 2 ^ k := by simp [rowT]
theorem rowT_get (l : List Int) (k i : Nat) (h : i < (rowT l k).length) : (rowT l k)[i] = (tix l i (2 ^ k) : Int) := by simp [rowT]
/-- How many rows. -/
def lvl (n : Nat) : Nat := if n = 0 then 0 else Nat.log2 n + 1
theorem lvl_lt (n : Nat) : n < 2 ^ lvl n := by
  unfold lvl
  by_cases h : n = 0
  · simp [h]
  · rw [if_neg h]; exact Nat.lt_log2_self
theorem lvl_le (n k : Nat) (h : k < lvl n) : 2 ^ k ≤ n := by
  unfold lvl at h
  by_cases h0 : n = 0
  · simp [h0] at h
  · rw [if_neg h0] at h
    exact Nat.le_trans (Nat.pow_le_pow_right (by omega) (by omega)) (Nat.log2_self_le h0)
theorem lvl_of (n k : Nat) (h : 2 ^ k ≤ n) : k < lvl n := by
  apply Classical.byContradiction
  intro hk
  have h1 := lvl_lt n
  have h2 := Nat.pow_le_pow_right (n := 2) (by omega) (show lvl n ≤ k by omega)
  omega
def rowsT (l : List Int) : List (List Int) := (List.range (lvl l.length)).map (rowT l)
theorem rowsT_length (l : List Int) : (rowsT l).length = lvl l.length := by simp [rowsT]
theorem rowsT_get (l : List Int) (k : Nat) (h : k < (rowsT l).length) : (rowsT l)[k] = rowT l k := by simp [rowsT]
theorem rowsT_take (l : List Int) (k : Nat) (h : k < lvl l.length) : (rowsT l).take (k + 1) = (rowsT l).take k ++ [rowT l k] := by
  rw [List.take_succ_eq_append_getElem (by rw [rowsT_length]; exact h), rowsT_get]
theorem lvl_small (n : Nat) (h : n ≤ 300) : lvl n ≤ 9 := by
  apply Classical.byContradiction
  intro hk
  have := lvl_le n 9 (by omega)
  omega
/-- A row begun: the first i of row k, the others not yet told. -/
def rowK (l : List Int) (k i : Nat) : List Int := (rowT l k).take i ++ List.replicate (l.length + 1 - 2 ^ k - i) 0
theorem rowK_length (l : List Int) (k i : Nat) (h : i ≤ l.length + 1 - 2 ^ k) : (rowK l k i).length = l.length + 1 - 2 ^ k := by
  simp [rowK, rowT_length]; omega
theorem rowK_zero (l : List Int) (k : Nat) : rowK l k 0 = List.replicate (l.length + 1 - 2 ^ k) 0 := by simp [rowK]
theorem rowK_all (l : List Int) (k : Nat) : rowK l k (l.length + 1 - 2 ^ k) = rowT l k := by
  simp only [rowK, Nat.sub_self, List.replicate_zero, List.append_nil]
  exact List.take_of_length_le (by rw [rowT_length]; exact Nat.le_refl _)
theorem rowK_set (l : List Int) (k i : Nat) (h : i < l.length + 1 - 2 ^ k) : (rowK l k i).set i (tix l i (2 ^ k)) = rowK l k (i + 1) := by
  have h1 : ((rowT l k).take i).length = i := by rw [List.length_take, rowT_length]; omega
  simp only [rowK]
  rw [List.set_append_right (h := by omega), h1, Nat.sub_self, show l.length + 1 - 2 ^ k - i = (l.length + 1 - 2 ^ k - (i + 1)) + 1 by omega, List.replicate_succ, List.set_cons_zero,
    List.take_succ_eq_append_getElem (by rw [rowT_length]; exact h), rowT_get, List.append_assoc]
  rfl
theorem tix_two (l : List Int) (k i : Nat) : (if at0 l (tix l i (2 ^ k)) < at0 l (tix l (i + 2 ^ k) (2 ^ k)) then tix l (i + 2 ^ k) (2 ^ k) else tix l i (2 ^ k)) = tix l i (2 ^ (k + 1)) := by
  have hp : 0 < 2 ^ k := Nat.pow_pos (by omega)
  exact tix_join l i (2 ^ k) (i + 2 ^ k) (2 ^ k) (2 ^ (k + 1)) hp hp (by omega) (by omega) (by omega) (by rw [Nat.pow_succ]; omega)

end Go.Proofs.YteeeikninigeoaaGreatDoor

/- Plain facts on piles: places one on the other, that fall. -/
namespace Go.Proofs.YteeeikninigeoaaGreatDoor
set_option linter.unusedVariables false

/-- The place that lies on top of a pile. -/
def tip (p : List Nat) : Nat := p.getLastD 0
theorem tip_snoc (p : List Nat) (x : Nat) : tip (p ++ [x]) = x := by simp [tip]
theorem tip_mem {p : List Nat} (h : p ≠ []) : tip p ∈ p := by
  unfold tip
  rw [List.getLastD_eq_getLast?, List.getLast?_eq_some_getLast h]
  exact List.getLast_mem h
theorem tip_get {p : List Nat} (h : p ≠ []) : p[p.length - 1]'(by have := List.length_pos_iff.2 h; omega) = tip p := by
  unfold tip
  rw [List.getLastD_eq_getLast?, List.getLast?_eq_some_getLast h, Option.getD_some, List.getLast_eq_getElem]
/-- The first pile whose top is not below v. -/
def slot (l : List Int) (v : Int) (ps : List (List Nat)) : Nat := ps.findIdx fun p => decide (v ≤ at0 l (tip p))
theorem slot_le (l : List Int) (v : Int) (ps : List (List Nat)) : slot l v ps ≤ ps.length := List.findIdx_le_length
theorem findIdx_uniq {α : Type _} (f : α → Bool) (l : List α) (k : Nat) (hk : k ≤ l.length) (h1 : ∀ i (hi : i < l.length), i < k → f l[i] = false) (h2 : ∀ h : k < l.length, f l[k] = true) : l.findIdx f = k := by
  induction l generalizing k with
  | nil => simp at hk; simp [hk]
  | cons x l ih =>
    cases k with
    | zero =>
      have := h2 (by simp)
      rw [List.findIdx_cons]
      simp only [List.getElem_cons_zero] at this
      simp [this]
    | succ k =>
      have h0 := h1 0 (by simp) (by omega)
      simp only [List.getElem_cons_zero] at h0
      rw [List.findIdx_cons, h0]
      simp only [cond_false]
      rw [ih k (by simpa using hk) (fun i hi hik => h1 (i + 1) (by simpa using hi) (by omega)) (fun h => h2 (by simpa using h))]
def putP (ps : List (List Nat)) (k i : Nat) : List (List Nat) := if k < ps.length then ps.set k (ps.getD k [] ++ [i]) else ps ++ [[i]]
def pilesK (l : List Int) : Nat → List (List Nat)
  | 0 => []
  | i + 1 => putP (pilesK l i) (slot l (at0 l i) (pilesK l i)) i
/-- y stands just under x, in the pile ahead of its own. -/
def Back (l : List Int) (p : List Nat) (x : Nat) : Prop := ∃ j, ∃ h : j < p.length, p[j] < x ∧ at0 l p[j] < at0 l x ∧ ∀ i (hi : i < p.length), j < i → x < p[i]
structure PInv (l : List Int) (i : Nat) (ps : List (List Nat)) : Prop where
  ne : ∀ p ∈ ps, p ≠ []
  lt : ∀ p ∈ ps, ∀ x ∈ p, x < i
  inc : ∀ p ∈ ps, p.Pairwise (· < ·)
  fall : ∀ p ∈ ps, p.Pairwise fun x y => at0 l y ≤ at0 l x
  tops : ps.Pairwise fun p q => at0 l (tip p) < at0 l (tip q)
  sum : (ps.map List.length).sum = i
  all : ∀ x, x < i → ∃ p ∈ ps, x ∈ p
  back : ∀ k (h : k + 1 < ps.length), ∀ x ∈ ps[k + 1], Back l ps[k] x
theorem PInv.nil (l : List Int) : PInv l 0 [] := ⟨by simp, by simp, by simp, by simp, .nil, rfl, fun x h => by omega, fun k h => by simp at h⟩
theorem sum_set {ps : List (List Nat)} {k : Nat} (h : k < ps.length) (q : List Nat) : ((ps.set k q).map List.length).sum + ps[k].length = (ps.map List.length).sum + q.length := by
  induction ps generalizing k with
  | nil => simp at h
  | cons p ps ih =>
    cases k with
    | zero => simp; omega
    | succ k =>
      have := ih (k := k) (by simpa using h)
      simp only [List.set_cons_succ, List.map_cons, List.sum_cons, List.getElem_cons_succ] at *
      omega
theorem slot_lo {l : List Int} {v : Int} {ps : List (List Nat)} {j : Nat} (hj : j < slot l v ps) (hl : j < ps.length) : at0 l (tip ps[j]) < v := by
  have := List.not_of_lt_findIdx (p := fun p => decide (v ≤ at0 l (tip p))) hj
  simp at this
  exact this
theorem slot_at {l : List Int} {v : Int} {ps : List (List Nat)} (hl : slot l v ps < ps.length) : v ≤ at0 l (tip ps[slot l v ps]) := by
  have := List.findIdx_getElem (p := fun p => decide (v ≤ at0 l (tip p))) (w := hl)
  exact of_decide_eq_true this
theorem back_tip {l : List Int} {p : List Nat} {i : Nat} (hne : p ≠ []) (hinc : p.Pairwise (· < ·)) (hlt : ∀ x ∈ p, x < i) (hv : at0 l (tip p) < at0 l i) : Back l p i := by
  have hpos := List.length_pos_iff.2 hne
  refine ⟨p.length - 1, by omega, ?_, ?_, fun j hj hlt => by omega⟩
  · exact hlt _ (List.getElem_mem _)
  · rw [tip_get hne]; exact hv
theorem back_snoc {l : List Int} {p : List Nat} {x i : Nat} (h : Back l p x) (hx : x < i) : Back l (p ++ [i]) x := by
  obtain ⟨j, hj, h1, h2, h3⟩ := h
  refine ⟨j, by simp; omega, by rw [List.getElem_append_left hj]; exact h1, by rw [List.getElem_append_left hj]; exact h2, fun k hk hjk => ?_⟩
  by_cases hkl : k < p.length
  · rw [List.getElem_append_left hkl]; exact h3 k hkl hjk
  · rw [List.getElem_append_right (by omega)]
    simpa using hx
theorem PInv.step {l : List Int} {i : Nat} {ps : List (List Nat)} (h : PInv l i ps) : PInv l (i + 1) (putP ps (slot l (at0 l i) ps) i) := by
  unfold putP
  have hle := slot_le l (at0 l i) ps
  have hlo := fun j (hj : j < slot l (at0 l i) ps) (hl : j < ps.length) => slot_lo hj hl
  have hat := fun hl => slot_at (l := l) (v := at0 l i) (ps := ps) hl
  generalize slot l (at0 l i) ps = k at *
  have htp := List.pairwise_iff_getElem.1 h.tops
  by_cases hk : k < ps.length
  · rw [if_pos hk, getD_at ps [] hk]
    have hkm := List.getElem_mem hk
    have hv := hat hk
    have hne := h.ne _ hkm
    have hmem : ∀ q ∈ ps.set k (ps[k] ++ [i]), q = ps[k] ++ [i] ∨ q ∈ ps := fun q hq => by
      rcases List.mem_or_eq_of_mem_set hq with h1 | h1
      · exact .inr h1
      · exact .inl h1
    refine ⟨fun q hq => ?_, fun q hq x hx => ?_, fun q hq => ?_, fun q hq => ?_, ?_, ?_, fun x hx => ?_, fun j hj x hx => ?_⟩
    · rcases hmem q hq with rfl | hq
      · simp
      · exact h.ne q hq
    · rcases hmem q hq with rfl | hq
      · rcases List.mem_append.1 hx with hx | hx
        · have := h.lt _ hkm x hx; omega
        · rw [List.mem_singleton.1 hx]; omega
      · have := h.lt q hq x hx; omega
    · rcases hmem q hq with rfl | hq
      · exact List.pairwise_append.2 ⟨h.inc _ hkm, by simp, fun a ha b hb => by rw [List.mem_singleton.1 hb]; exact h.lt _ hkm a ha⟩
      · exact h.inc q hq
    · rcases hmem q hq with rfl | hq
      · refine List.pairwise_append.2 ⟨h.fall _ hkm, by simp, fun a ha b hb => ?_⟩
        rw [List.mem_singleton.1 hb]
        -- the top is the least of the pile
        have hmin : at0 l (tip ps[k]) ≤ at0 l a := by
          obtain ⟨j, hj, rfl⟩ := List.mem_iff_getElem.1 ha
          rw [← tip_get hne]
          by_cases e : j = ps[k].length - 1
          · subst e; exact Int.le_refl _
          · exact List.pairwise_iff_getElem.1 (h.fall _ hkm) j _ hj (by omega) (by omega)
        omega
      · exact h.fall q hq
    · refine List.pairwise_iff_getElem.2 fun a b ha hb hab => ?_
      rw [List.length_set] at ha hb
      rw [List.getElem_set, List.getElem_set]
      have h0 := htp a b ha hb hab
      by_cases e1 : k = a
      · subst e1
        rw [if_pos rfl, if_neg (by omega), tip_snoc]
        omega
      · by_cases e2 : k = b
        · subst e2
          rw [if_neg e1, if_pos rfl, tip_snoc]
          exact hlo a hab ha
        · rw [if_neg e1, if_neg e2]; exact h0
    · have := sum_set hk (ps[k] ++ [i])
      have := h.sum
      simp only [List.length_append, List.length_singleton] at *
      omega
    · by_cases hxi : x = i
      · subst hxi
        exact ⟨ps[k] ++ [x], List.mem_iff_getElem.2 ⟨k, by simpa using hk, by simp⟩, by simp⟩
      · obtain ⟨p, hp, hxp⟩ := h.all x (by omega)
        obtain ⟨j, hj, rfl⟩ := List.mem_iff_getElem.1 hp
        by_cases e : k = j
        · subst e
          exact ⟨ps[k] ++ [i], List.mem_iff_getElem.2 ⟨k, by simpa using hk, by simp⟩, by simp [hxp]⟩
        · exact ⟨ps[j], List.mem_iff_getElem.2 ⟨j, by simpa using hj, by rw [List.getElem_set, if_neg e]⟩, hxp⟩
    · rw [List.length_set] at hj
      rw [List.getElem_set] at hx
      rw [List.getElem_set]
      by_cases e1 : k = j + 1
      · subst e1
        rw [if_pos rfl] at hx
        rw [if_neg (by omega)]
        rcases List.mem_append.1 hx with hx | hx
        · exact h.back j hk x hx
        · rw [List.mem_singleton.1 hx]
          have hjm := List.getElem_mem (show j < ps.length by omega)
          exact back_tip (h.ne _ hjm) (h.inc _ hjm) (h.lt _ hjm) (hlo j (by omega) (by omega))
      · rw [if_neg e1] at hx
        have hb := h.back j hj x hx
        by_cases e2 : k = j
        · subst e2
          rw [if_pos rfl]
          exact back_snoc hb (h.lt _ (List.getElem_mem hj) x hx)
        · rw [if_neg e2]; exact hb
  · rw [if_neg hk]
    have hkl : k = ps.length := by omega
    subst hkl
    refine ⟨fun q hq => ?_, fun q hq x hx => ?_, fun q hq => ?_, fun q hq => ?_, ?_, ?_, fun x hx => ?_, fun j hj x hx => ?_⟩
    · rcases List.mem_append.1 hq with hq | hq
      · exact h.ne q hq
      · rw [List.mem_singleton.1 hq]; simp
    · rcases List.mem_append.1 hq with hq | hq
      · have := h.lt q hq x hx; omega
      · rw [List.mem_singleton.1 hq] at hx; rw [List.mem_singleton.1 hx]; omega
    · rcases List.mem_append.1 hq with hq | hq
      · exact h.inc q hq
      · rw [List.mem_singleton.1 hq]; simp
    · rcases List.mem_append.1 hq with hq | hq
      · exact h.fall q hq
      · rw [List.mem_singleton.1 hq]; simp
    · refine List.pairwise_append.2 ⟨h.tops, by simp, fun p hp q hq => ?_⟩
      rw [List.mem_singleton.1 hq]
      obtain ⟨j, hj, rfl⟩ := List.mem_iff_getElem.1 hp
      exact hlo j hj hj
    · have := h.sum
      simp [List.sum_append] at *
      omega
    · by_cases hxi : x = i
      · exact ⟨[i], by simp, by simp [hxi]⟩
      · obtain ⟨p, hp, hxp⟩ := h.all x (by omega)
        exact ⟨p, by simp [hp], hxp⟩
    · rw [List.length_append, List.length_singleton] at hj
      by_cases e : j + 1 < ps.length
      · rw [List.getElem_append_left e] at hx
        rw [List.getElem_append_left (by omega)]
        exact h.back j e x hx
      · rw [List.getElem_append_right (by omega)] at hx
        rw [List.getElem_append_left (by omega)]
        simp at hx
        subst hx
        have hjm := List.getElem_mem (show j < ps.length by omega)
        exact back_tip (h.ne _ hjm) (h.inc _ hjm) (h.lt _ hjm) (hlo j (by omega) (by omega))
theorem piles_inv (l : List Int) (i : Nat) : PInv l i (pilesK l i) := by
  induction i with
  | zero => exact .nil l
  | succ i ih => exact ih.step
theorem pilesK_len (l : List Int) (i : Nat) : (pilesK l i).length ≤ i := by
  induction i with
  | zero => exact Nat.le_refl _
  | succ i ih =>
    simp only [pilesK, putP]
    split <;> simp <;> omega

/-- Places that rise. -/
structure Rises (l : List Int) (r : List Nat) : Prop where
  lt : ∀ x ∈ r, x < l.length
  inc : r.Pairwise (· < ·)
  up : r.Pairwise fun x y => at0 l x < at0 l y
/-- No two places of a rise lie in one pile. -/
theorem rise_once {l : List Int} {r p : List Nat} (hr : Rises l r) (hp : p.Pairwise fun x y => at0 l y ≤ at0 l x) (hi : p.Pairwise (· < ·)) {x y : Nat} (hx : x ∈ r) (hy : y ∈ r) (hxp : x ∈ p) (hyp : y ∈ p) : x = y := by
  have key : ∀ a b, a ∈ r → b ∈ r → a ∈ p → b ∈ p → a < b → False := by
    intro a b ha hb hap hbp hab
    obtain ⟨i, hi1, rfl⟩ := List.mem_iff_getElem.1 ha
    obtain ⟨j, hj1, rfl⟩ := List.mem_iff_getElem.1 hb
    obtain ⟨s, hs1, es⟩ := List.mem_iff_getElem.1 hap
    obtain ⟨t, ht1, et⟩ := List.mem_iff_getElem.1 hbp
    have hij : i < j := by
      rcases Nat.lt_trichotomy i j with h | h | h
      · exact h
      · subst h; omega
      · have := List.pairwise_iff_getElem.1 hr.inc j i hj1 hi1 h; omega
    have h1 := List.pairwise_iff_getElem.1 hr.up i j hi1 hj1 hij
    have hst : s < t := by
      rcases Nat.lt_trichotomy s t with h | h | h
      · exact h
      · subst h; omega
      · have := List.pairwise_iff_getElem.1 hi t s ht1 hs1 h; omega
    have h2 := List.pairwise_iff_getElem.1 hp s t hs1 ht1 hst
    rw [es, et] at h2
    omega
  rcases Nat.lt_trichotomy x y with h | h | h
  · exact (key x y hx hy hxp hyp h).elim
  · exact h
  · exact (key y x hy hx hyp hxp h).elim
theorem rise_len {l : List Int} {r : List Nat} (hr : Rises l r) : r.length ≤ (pilesK l l.length).length := by
  have hI := piles_inv l l.length
  -- the pile in which each place lies
  have hw : ∀ x ∈ r, ∃ k, ∃ h : k < (pilesK l l.length).length, x ∈ (pilesK l l.length)[k] := fun x hx => by
    obtain ⟨p, hp, hxp⟩ := hI.all x (hr.lt x hx)
    obtain ⟨k, hk, rfl⟩ := List.mem_iff_getElem.1 hp
    exact ⟨k, hk, hxp⟩
  generalize pilesK l l.length = ps at *
  let f : Nat → Nat := fun x => ps.findIdx fun p => decide (x ∈ p)
  have hf : ∀ x ∈ r, ∃ h : f x < ps.length, x ∈ ps[f x] := fun x hx => by
    obtain ⟨k, hk, hxk⟩ := hw x hx
    have hlt : f x < ps.length := List.findIdx_lt_length_of_exists ⟨ps[k], List.getElem_mem hk, by simpa using hxk⟩
    refine ⟨hlt, ?_⟩
    have := List.findIdx_getElem (p := fun p => decide (x ∈ p)) (w := hlt)
    simpa using this
  have hnd : (r.map f).Nodup := by
    have hrn : r.Pairwise (· ≠ ·) := hr.inc.imp (fun h => Nat.ne_of_lt h)
    refine List.pairwise_map.2 (List.Pairwise.imp_of_mem ?_ hrn)
    intro a b ha hb hne he
    obtain ⟨h1, h2⟩ := hf a ha
    obtain ⟨h3, h4⟩ := hf b hb
    have h4' : b ∈ ps[f a] := by simpa [he] using h4
    exact hne (rise_once hr (hI.fall _ (List.getElem_mem h1)) (hI.inc _ (List.getElem_mem h1)) ha hb h2 h4')
  have hsub : r.map f ⊆ List.range ps.length := fun k hk => by
    obtain ⟨x, hx, rfl⟩ := List.mem_map.1 hk
    exact List.mem_range.2 (hf x hx).1
  have := hnd.length_le_of_subset hsub
  simpa using this

end Go.Proofs.YteeeikninigeoaaGreatDoor


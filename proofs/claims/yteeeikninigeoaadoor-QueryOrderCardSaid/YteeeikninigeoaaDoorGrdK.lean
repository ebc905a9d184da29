import Derived.Test.YteeeikninigeoaaDoorMGr
/- Package grid: the plain facts of Report and Kth. -/
namespace Go.Proofs.YteeeikninigeoaaDoor
set_option linter.unusedVariables false
open Go.RowKit

/-- Whether a place of a list stands in a rectangle. -/
def inL (L : List Pt) (X0 Y0 X1 Y1 : Int) (i : Nat) : Bool := inR X0 Y0 X1 Y1 (L.getD i pt0)
theorem inL_iff (L : List Pt) (X0 Y0 X1 Y1 : Int) (i : Nat) : inL L X0 Y0 X1 Y1 i = true ↔ (X0 ≤ (L.getD i pt0).x ∧ (L.getD i pt0).x ≤ X1 ∧ Y0 ≤ (L.getD i pt0).y ∧ (L.getD i pt0).y ≤ Y1) := by
  unfold inL inR; rw [decide_eq_true_eq]
/-- What is reported: each place in the rectangle, once. -/
structure IsRep (L : List Pt) (X0 Y0 X1 Y1 : Int) (out : List Nat) : Prop where
  perm : out.Perm ((List.range L.length).filter (inL L X0 Y0 X1 Y1))
theorem IsRep.mem {L : List Pt} {X0 Y0 X1 Y1 : Int} {out : List Nat} (h : IsRep L X0 Y0 X1 Y1 out) (i : Nat) : i ∈ out ↔ (i < L.length ∧ inL L X0 Y0 X1 Y1 i = true) := by
  rw [h.perm.mem_iff, List.mem_filter, List.mem_range]
theorem IsRep.nodup {L : List Pt} {X0 Y0 X1 Y1 : Int} {out : List Nat} (h : IsRep L X0 Y0 X1 Y1 out) : out.Nodup := h.perm.nodup_iff.2 (List.nodup_range.filter _)
theorem IsRep.len {L : List Pt} {X0 Y0 X1 Y1 : Int} {out : List Nat} (h : IsRep L X0 Y0 X1 Y1 out) : out.length = cntR L X0 Y0 X1 Y1 := by
  rw [h.perm.length_eq, ← List.countP_eq_length_filter]
  unfold cntR
  conv => rhs; rw [← map_range_getD L, List.countP_map]
  rfl
theorem rep_eq {n : Nat} {L : List Pt} {O : List Nat} (hO : IsOrder L O) (hn : L.length = n) (X0 Y0 X1 Y1 : Int) (p b q : Nat) (hp : colAt L O n X0 false = p) (hb : colAt L O n X1 true = b) (hq : max p b = q) :
    IsRep L X0 Y0 X1 Y1 (((O.take q).drop p).filter (inL L X0 Y0 X1 Y1)) := by
  have hol := hO.len
  have hpn : p ≤ n := by rw [← hp]; exact colAt_le _ _ _ _ _
  have hbn : b ≤ n := by rw [← hb]; exact colAt_le _ _ _ _ _
  have e1 : O = O.take p ++ ((O.take q).drop p ++ O.drop q) := by
    have h1 := List.take_append_drop q O
    have h2 := List.take_append_drop p (O.take q)
    rw [List.take_take, Nat.min_eq_left (by omega)] at h2
    rw [← List.append_assoc, h2, h1]
  have f1 : (O.take p).filter (inL L X0 Y0 X1 Y1) = [] := by
    rw [List.filter_eq_nil_iff]
    intro i hi
    obtain ⟨k, hk, rfl⟩ := List.getElem_of_mem hi
    rw [List.length_take] at hk
    have := fstIdx_before (fun k => past X0 false (L.getD (O.getD k 0) pt0).x) n k (by unfold colAt at hp; omega)
    rw [past_false, decide_eq_false_iff_not] at this
    rw [List.getElem_take, inL_iff, ← getD_at O 0 (by omega)]
    omega
  have f2 : (O.drop q).filter (inL L X0 Y0 X1 Y1) = [] := by
    rw [List.filter_eq_nil_iff]
    intro i hi
    obtain ⟨k, hk, rfl⟩ := List.getElem_of_mem hi
    rw [List.length_drop] at hk
    have h1 := fstIdx_at (fun k => past X1 true (L.getD (O.getD k 0) pt0).x) n (by unfold colAt at hb; omega)
    unfold colAt at hb
    rw [hb, past_true, decide_eq_true_eq] at h1
    have h2 : (L.getD (O.getD b 0) pt0).x ≤ (L.getD (O.getD (q + k) 0) pt0).x := by
      rcases Nat.lt_or_ge b (q + k) with h | h
      · have := hO.up b (q + k) h (by omega)
        unfold lexLe at this; omega
      · rw [show q + k = b by omega]; exact Int.le_refl _
    rw [List.getElem_drop, inL_iff, ← getD_at O 0 (by omega)]
    omega
  have e2 : O.filter (inL L X0 Y0 X1 Y1) = ((O.take q).drop p).filter (inL L X0 Y0 X1 Y1) := by
    conv => lhs; rw [e1]
    rw [List.filter_append, List.filter_append, f1, f2, List.nil_append, List.append_nil]
  refine ⟨?_⟩
  rw [← e2]
  exact hO.perm.filter _

theorem cntR_len (L : List Pt) (X0 Y0 X1 Y1 : Int) : cntR L X0 Y0 X1 Y1 ≤ L.length := by unfold cntR; exact List.countP_le_length
/-- p is the kth of those in a rectangle by their y (those of the same y in whatever order). -/
structure KthOf (L : List Pt) (X0 Y0 X1 Y1 : Int) (k p : Nat) : Prop where
  lt : p < L.length
  inn : inL L X0 Y0 X1 Y1 p = true
  lo : cntR L X0 Y0 X1 ((L.getD p pt0).y - 1) ≤ k
  hi : k < cntR L X0 Y0 X1 (L.getD p pt0).y
theorem cntR_mono (L : List Pt) (X0 Y0 X1 : Int) {u v : Int} (h : u ≤ v) : cntR L X0 Y0 X1 u ≤ cntR L X0 Y0 X1 v := by
  unfold cntR
  refine List.countP_mono_left fun p _ hp => ?_
  unfold inR at *
  rw [decide_eq_true_eq] at *
  omega
theorem KthOf.mono {L : List Pt} {X0 Y0 X1 Y1 : Int} {k k' p p' : Nat} (h : KthOf L X0 Y0 X1 Y1 k p) (h' : KthOf L X0 Y0 X1 Y1 k' p') (hk : k ≤ k') : (L.getD p pt0).y ≤ (L.getD p' pt0).y := by
  have h1 := h.lo
  have h2 := h'.hi
  apply Int.not_lt.1
  intro hc
  have := cntR_mono L X0 Y0 X1 (show (L.getD p' pt0).y ≤ (L.getD p pt0).y - 1 by omega)
  omega

theorem cntY_mono (L : List Pt) (O : List Nat) (p q : Nat) {u v : Int} {a b : Bool} (h : ∀ y, past v b y = true → past u a y = true) : cntY L O p q u a ≤ cntY L O p q v b := by
  unfold cntY
  refine List.countP_mono_left fun i _ hi => ?_
  cases hv : past v b (L.getD i pt0).y with
  | false =>
    cases hu : past u a (L.getD i pt0).y with
    | false => rfl
    | true => rw [hu] at hi; simp at hi
  | true => rw [h _ hv] at hi; simp at hi
/-- The number at a place of a strict order: what lies below it, and up to it. -/
theorem kth_cnt {n : Nat} {L : List Pt} {O R : List Nat} {V : List Int} (h : GFacts n L O V R) (p q : Nat) (hq : q ≤ n) (kk m : Nat) (hk : IsKth (sg R p q) kk m) :
    m < V.length ∧ cntY L O p q (V.getD m 0) false ≤ kk ∧ kk < cntY L O p q (V.getD m 0) true := by
  have hm := hk.mem
  unfold sg at hm
  obtain ⟨j, hj, e⟩ := List.getElem_of_mem (List.mem_of_mem_take (List.mem_of_mem_drop hm))
  have hr := h.rk j (by rw [← h.rl]; exact hj)
  rw [getD_at R 0 hj, e] at hr
  have e1 := below_eq h p q hq (V.getD m 0) false
  have e2 := below_eq h p q hq (V.getD m 0) true
  have hup : ∀ i j, i < j → j < V.length → V.getD i 0 < V.getD j 0 := fun i j hij hj => by
    have h1 := up_le h.up (Nat.le_of_lt hij) hj
    have := h.up
    exact up_lt h.up hij hj
  rw [fstIdx_uniq (fun i => past (V.getD m 0) false (V.getD i 0)) V.length m (by omega) (fun i hi => by
      rw [past_false, decide_eq_false_iff_not]; have := hup i m hi hr.1; omega) (fun _ => by rw [past_false, decide_eq_true_eq]; exact Int.le_refl _)] at e1
  rw [fstIdx_uniq (fun i => past (V.getD m 0) true (V.getD i 0)) V.length (m + 1) (by omega) (fun i hi => by
      rw [past_true, decide_eq_false_iff_not]
      have := up_le h.up (show i ≤ m by omega) hr.1; omega) (fun hl => by rw [past_true, decide_eq_true_eq]; exact hup m (m + 1) (by omega) hl)] at e2
  unfold IsKth at hk
  exact ⟨hr.1, by rw [← e1]; exact hk.1, by rw [← e2]; exact hk.2⟩

/-- All that Kth reckons. -/
theorem kth_facts {n : Nat} {L : List Pt} {O R : List Nat} {V : List Int} (h : GFacts n L O V R) (X0 Y0 X1 Y1 : Int) (p b q : Nat) (hp : colAt L O n X0 false = p) (hb : colAt L O n X1 true = b) (hq : max p b = q) (k low : Nat) (hk : k < cntR L X0 Y0 X1 Y1)
    (hlow : cntY L O p q Y0 false = low) (hn : n ≤ 150) :
    low + k < q - p ∧ ∀ m, IsKth (sg R p q) (low + k) m → ∃ y s, V.getD m 0 = y ∧ m < V.length ∧ cntY L O p q y false = s ∧ low ≤ s ∧ s ≤ low + k ∧ low + k - s < cntR L X0 y X1 y ∧ s ≤ 1000000 ∧
      ∀ out, IsRep L X0 y X1 y out → ∀ t, t ∈ out → KthOf L X0 Y0 X1 Y1 k t := by
  have hbn : b ≤ n := by rw [← hb]; exact colAt_le _ _ _ _ _
  have hpn : p ≤ n := by rw [← hp]; exact colAt_le _ _ _ _ _
  have hol := h.ord.len
  have hl := h.len
  have hc := fun u v => count_eq h.ord h.len X0 u X1 v p b hp hb
  rw [hq] at hc
  have hle : ∀ y a, cntY L O p q y a ≤ q - p := fun y a => by
    unfold cntY
    refine Nat.le_trans List.countP_le_length ?_
    simp only [List.length_drop, List.length_take]
    omega
  have h1 := hc Y0 Y1
  have hY1 := hle Y1 true
  refine ⟨by omega, fun m hm => ?_⟩
  obtain ⟨hmv, lo, hi⟩ := kth_cnt h p q (by omega) _ m hm
  obtain ⟨y, hy⟩ : ∃ y, V.getD m 0 = y := ⟨_, rfl⟩
  rw [hy] at lo hi
  obtain ⟨s, hs⟩ : ∃ s, cntY L O p q y false = s := ⟨_, rfl⟩
  rw [hs] at lo
  have y1 : y ≤ Y1 := by
    apply Int.not_lt.1
    intro hlt
    have := cntY_mono L O p q (u := Y1) (v := y) (a := true) (b := false) (fun z hz => by
      rw [past_false, decide_eq_true_eq] at hz; rw [past_true, decide_eq_true_eq]; omega)
    omega
  have y0 : Y0 ≤ y := by
    apply Int.not_lt.1
    intro hlt
    have := cntY_mono L O p q (u := y) (v := Y0) (a := true) (b := false) (fun z hz => by
      rw [past_false, decide_eq_true_eq] at hz; rw [past_true, decide_eq_true_eq]; omega)
    omega
  have hls : low ≤ s := by
    have := cntY_mono L O p q (u := Y0) (v := y) (a := false) (b := false) (fun z hz => by
      rw [past_false, decide_eq_true_eq] at *; omega)
    omega
  have h2 := hc y y
  have h3 := hc Y0 y
  have h4 := hc Y0 (y - 1)
  have h5 : cntY L O p q (y - 1) true = s := by
    rw [← hs]
    apply Nat.le_antisymm
    · refine cntY_mono L O p q fun z hz => ?_
      rw [past_false, decide_eq_true_eq] at hz
      rw [past_true, decide_eq_true_eq]; omega
    · refine cntY_mono L O p q fun z hz => ?_
      rw [past_true, decide_eq_true_eq] at hz
      rw [past_false, decide_eq_true_eq]; omega
  have h6 := hle y false
  refine ⟨y, s, hy, hmv, hs, hls, lo, by omega, by omega, fun out ho t ht => ?_⟩
  obtain ⟨htl, hti⟩ := (ho.mem t).1 ht
  rw [inL_iff] at hti
  have hty : (L.getD t pt0).y = y := by omega
  refine ⟨htl, ?_, ?_, ?_⟩
  · rw [inL_iff]; omega
  · rw [hty]; omega
  · rw [hty]; omega

end Go.Proofs.YteeeikninigeoaaDoor


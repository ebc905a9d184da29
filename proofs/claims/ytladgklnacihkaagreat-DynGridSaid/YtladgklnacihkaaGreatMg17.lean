import Derived.Test.YtladgklnacihkaaGreatMg16
import Derived.Test.YtladgklnacihkaaGreatMg2
import Derived.Test.YtladgklnacihkaaGreatMg4
/- Package grid: Count. -/
namespace Go.Proofs.YtladgklnacihkaaGreat
set_option linter.unusedVariables false
open Go.RowKit

theorem past_true (y v : Int) : past y true v = decide (y < v) := by unfold past; simp
theorem past_false (y v : Int) : past y false v = decide (y ≤ v) := by
  unfold past
  by_cases h1 : y < v
  · simp [h1]; omega
  · by_cases h2 : v = y
    · simp [h2]
    · simp [h1, h2]; omega
theorem map_range_getD (L : List Pt) : (List.range L.length).map (fun i => L.getD i pt0) = L := by
  apply List.ext_getElem
  · simp
  · intro i h1 h2
    rw [List.getElem_map, List.getElem_range, getD_at _ _ h2]
/-- What Count computes is how many points stand in the rectangle. -/
theorem count_eq {n : Nat} {L : List Pt} {O : List Nat} (hO : IsOrder L O) (hn : L.length = n) (X0 Y0 X1 Y1 : Int) (p b : Nat) (hp : colAt L O n X0 false = p) (hb : colAt L O n X1 true = b) :
    max (0 : Int) ((cntY L O p (max p b) Y1 true : Nat) - (cntY L O p (max p b) Y0 false : Nat)) = (cntR L X0 Y0 X1 Y1 : Nat) := by
  have hol := hO.len
  have hpn : p ≤ n := by rw [← hp]; exact colAt_le _ _ _ _ _
  have hbn : b ≤ n := by rw [← hb]; exact colAt_le _ _ _ _ _
  obtain ⟨S, hS⟩ : ∃ S, S = O.map (fun i => L.getD i pt0) := ⟨_, rfl⟩
  have hSL : S.length = n := by rw [hS, List.length_map]; omega
  have hSg : ∀ i (h : i < S.length), S[i] = L.getD (O.getD i 0) pt0 := fun i h => by
    simp only [hS, List.getElem_map]
    rw [getD_at O 0 (by omega)]
  have hSP : S.Perm L := by
    have := hO.perm.map (fun i => L.getD i pt0)
    rw [map_range_getD] at this
    rw [hS]; exact this
  have hM : ∀ a c, (S.take c).drop a = ((O.take c).drop a).map (fun i => L.getD i pt0) := fun a c => by
    rw [hS, ← List.map_take, ← List.map_drop]
  have e1 : cntY L O p (max p b) Y1 true = ((S.take (max p b)).drop p).countP (fun q => decide (q.y ≤ Y1)) := by
    unfold cntY
    rw [hM, List.countP_map]
    apply List.countP_congr
    intro i _
    rw [past_true]
    simp
  have e2 : cntY L O p (max p b) Y0 false = ((S.take (max p b)).drop p).countP (fun q => decide (q.y < Y0)) := by
    unfold cntY
    rw [hM, List.countP_map]
    apply List.countP_congr
    intro i _
    rw [past_false]
    simp
  have hrc := range_cnt S X0 X1 p b (fun i j hij hj => by
      rw [hSg i (by omega), hSg j hj]
      have := hO.up i j hij (by omega)
      unfold lexLe at this; omega) (by omega) (by omega)
    (fun i hi hip => by
      rw [hSg i hi]
      have := fstIdx_before (fun k => past X0 false (L.getD (O.getD k 0) pt0).x) n i (by unfold colAt at hp; omega)
      rw [past_false] at this
      simpa using this)
    (fun h => by
      rw [hSg p h]
      have := fstIdx_at (fun k => past X0 false (L.getD (O.getD k 0) pt0).x) n (by unfold colAt at hp; omega)
      unfold colAt at hp
      rw [hp, past_false] at this
      simpa using this)
    (fun i hi hip => by
      rw [hSg i hi]
      have := fstIdx_before (fun k => past X1 true (L.getD (O.getD k 0) pt0).x) n i (by unfold colAt at hb; omega)
      rw [past_true] at this
      simpa using this)
    (fun h => by
      rw [hSg b h]
      have := fstIdx_at (fun k => past X1 true (L.getD (O.getD k 0) pt0).x) n (by unfold colAt at hb; omega)
      unfold colAt at hb
      rw [hb, past_true] at this
      simpa using this) (fun q => decide (Y0 ≤ q.y ∧ q.y ≤ Y1))
  rw [e1, e2, two_cnt, hrc, hSP.countP_eq]
  unfold cntR
  congr 2
  funext q
  unfold inR
  rw [Bool.eq_iff_iff]
  simp
  omega
theorem cntY_le (L : List Pt) (O : List Nat) (a b : Nat) (y : Int) (at' : Bool) : cntY L O a b y at' ≤ b := by
  unfold cntY
  refine Nat.le_trans List.countP_le_length ?_
  simp only [List.length_drop, List.length_take]
  omega
attribute [local irreducible] cntR cntY colAt

set_option maxRecDepth 100000 in
set_option maxHeartbeats 2000000 in
theorem gcount_any (a : Option Addr) (cap n : Nat) (L : List Pt) (X0 Y0 X1 Y1 : Int) (w : World) (h : SlF ptL 3 w a n cap L) (h0 : 0 < n) (hn : n ≤ 150) (hN : ∀ p ∈ L, p.Near) :
    Calls Tryz.prog 11 #[.slice a n cap, .agg #[.int .i64 X0, .int .i64 Y0, .int .i64 X1, .int .i64 Y1]] w fun e w' => e = .returned (.tuple #[.int .i64 (cntR L X0 Y0 X1 Y1 : Nat), .int .i64 0]) ∧ Below w.heap.size w w' := by
  obtain ⟨m, rfl⟩ : ∃ m, n = m + 1 := ⟨n - 1, by omega⟩
  have HA := Kp.mk (below_alloc (Nat.le_refl w.heap.size) (.cells #[.int .i64 X0, .int .i64 Y0, .int .i64 X1, .int .i64 Y1] 30))
  have HBX := Kp.mk (Box.new w #[.int .i64 X0, .int .i64 Y0, .int .i64 X1, .int .i64 Y1] 30)
  have H1 := Kp.mk (SlF.below h HA.out)
  have CC := Kp.mk (gcheck_any a cap (m + 1) L _ H1.out hn hN)
  have hm0 : ¬ (m : Int) + 1 = 0 := by omega
  have hm1 : ((m : Int) + 1 == 0) = false := by simpa using hm0
  clear h hN
  go_enter Tryz.func11, Tryz.ntmps11
  go_wp2_with fail
  refine CC.out.mono ?_
  rintro e w1 ⟨rfl, HB1⟩
  have H2 := Kp.mk (SlF.below H1.out HB1.out)
  have HX1 := Kp.mk (HBX.out.below HB1.out)
  have HBB1 := Kp.mk (below_step HA.out HB1.out)
  clear CC H1 HBX HA HB1
  go_wp2_with fail
  refine (gbuild_any a cap (m + 1) L w1 H2.out hn).mono ?_
  rintro e w2 ⟨g, oa, oc, O, va, v, vc, V, wa, wc, R, rfl, HI, HF, HB2, _⟩
  have HX2 := Kp.mk (HX1.out.below HB2.out)
  have HBB2 := Kp.mk (below_step HBB1.out HB2.out)
  have x0 := (HX2.out.cell 0 rfl)
  have x1 := (HX2.out.cell 1 rfl)
  have x2 := (HX2.out.cell 2 rfl)
  have x3 := (HX2.out.cell 3 rfl)
  clear HX1 H2 HBB1 HB2
  have CO := Kp.mk (columns_any X0 Y0 X1 Y1 w2 HI.out.to0 HF.out (by omega))
  have HCE := Kp.mk (fun p b hp hb => count_eq HF.out.ord HF.out.len X0 Y0 X1 Y1 p b hp hb)
  obtain ⟨p, hp⟩ : ∃ p, colAt L O (m + 1) X0 false = p := ⟨_, rfl⟩
  obtain ⟨b, hb⟩ : ∃ b, colAt L O (m + 1) X1 true = b := ⟨_, rfl⟩
  have hpn : p ≤ m + 1 := by rw [← hp]; exact colAt_le _ _ _ _ _
  have hbn : b ≤ m + 1 := by rw [← hb]; exact colAt_le _ _ _ _ _
  have HEQ := Kp.mk (HCE.out p b hp hb)
  rw [hp, hb] at CO
  obtain ⟨q, hq⟩ : ∃ q, max p b = q := ⟨_, rfl⟩
  rw [hq] at CO HEQ
  have hpq : p ≤ q := by omega
  have hqn : q ≤ m + 1 := by omega
  clear hp hb hq HCE hpn hbn
  go_wp2_with fail
  refine CO.out.mono ?_
  rintro e w3 ⟨rfl, hb3⟩
  have HI3 := Kp.mk (HI.out.below hb3)
  have HX3 := Kp.mk (HX2.out.below hb3)
  have HBB3 := Kp.mk (below_step HBB2.out hb3)
  have r1 := later_cell (show w3.cell? ⟨w.heap.size, 1, none⟩ = some (.int .i64 Y0) from HX3.out.cell 1 rfl)
  have r3 := later_cell (show w3.cell? ⟨w.heap.size, 3, none⟩ = some (.int .i64 Y1) from HX3.out.cell 3 rfl)
  have C1 := Kp.mk (fun x : Later w3 => gbelow_any p q Y1 true x.val (HI3.out.below x.le) HF.out hn hpq hqn)
  have C2 := Kp.mk (fun x : Later w3 => gbelow_any p q Y0 false x.val (HI3.out.below x.le) HF.out hn hpq hqn)
  generalize hu1 : cntY L O p q Y1 true = u1 at *
  generalize hu2 : cntY L O p q Y0 false = u2 at *
  have hl1 : u1 ≤ 1000 := by rw [← hu1]; exact Nat.le_trans (cntY_le _ _ _ _ _ _) (by omega)
  have hl2 : u2 ≤ 1000 := by rw [← hu2]; exact Nat.le_trans (cntY_le _ _ _ _ _ _) (by omega)
  have ew : IntKind.i64.wrap ((u1 : Int) - u2) = (u1 : Int) - u2 := IntWalk.i64_in _ (by omega)
  obtain ⟨c, hc⟩ : ∃ c, c = cntR L X0 Y0 X1 Y1 := ⟨_, rfl⟩
  rw [← hc] at HEQ
  have HC := Kp.mk hc
  clear hc
  clear hu1 hu2 CO HI HX2 hb3 x0 x1 x2 x3 HBB2
  go_wp2
  refine region_later (by kernel_rfl) (by kernel_rfl) ?_
  iterate 16 (go_big_quiet_step ((go_at_call 17; first | (with_reducible exact q_later (C1.out _)) | (with_reducible exact q_later (C2.out _)))))
  refine wpQuiet_nil ?_
  rintro w' ⟨xl, rfl⟩
  have HB5 := Kp.mk (below_step HBB3.out xl.le)
  clear r1 r3 C1 C2
  go_wp2
  refine bodyPost_ret (v := .tuple #[.int .i64 (max (0 : Int) ((u1 : Int) - u2)), .int .i64 0]) (by simp [results, Tryz.results11, go_sem]) rfl ?_
  exact ⟨by rw [HEQ.out, HC.out], HB5.out⟩

end Go.Proofs.YtladgklnacihkaaGreat

/- Package grid: the plain facts of Report and Kth. -/
namespace Go.Proofs.YtladgklnacihkaaGreat
set_option linter.unusedVariables false
open Go.RowKit

/-- Whether a place of a list stands in a rectangle. -/
def inL (L : List Pt) (X0 Y0 X1 Y1 : Int) (i : Nat) : Bool := inR X0 Y0 X1 Y1 (L.getD i pt0)
theorem inL_iff (L : List Pt) (X0 Y0 X1 Y1 : Int) (i : Nat) : inL L X0 Y0 X1 Y1 i = true ↔ (X0 ≤ (L.getD i pt0).x ∧ (L.getD i pt0).x ≤ X1 ∧ Y0 ≤ (L.getD i pt0).y ∧ (L.getD i pt0).y ≤ Y1) := by
  unfold inL inR; rw [decide_eq_true_eq]
/-- What is reported: each place in the rectangle, once. -/
structure IsRep (L : List Pt) (X0 Y0 X1 Y1 : Int) (out : List Nat) : Prop where
  perm : out.Perm ((List.range L.length).filter (inL L X0 Y0 X1 Y1))
theorem IsRep.mem {L : List Pt} {X0 Y0 X1 Y1 : Int} {out : List Nat} (h : IsRep L X0 Y0 X1 Y1 out) (i : Nat) : i ∈ out ↔ (i < L.length ∧ inL L X0 Y0 X1 Y1 i = true) := by
  rw [h.perm.mem_iff, List.mem_filter, List.mem_range]
theorem IsRep.nodup {L : List Pt} {X0 Y0 X1 Y1 : Int} {out : List Nat} (h : IsRep L X0 Y0 X1 Y1 out) : out.Nodup := h.perm.nodup_iff.2 (List.nodup_range.filter _)
theorem IsRep.len {L : List Pt} {X0 Y0 X1 Y1 : Int} {out : List Nat} (h : IsRep L X0 Y0 X1 Y1 out) : out.length = cntR L X0 Y0 X1 Y1 := by
  rw [h.perm.length_eq, ← List.countP_eq_length_filter]
  unfold cntR
  conv => rhs; rw [← map_range_getD L, List.countP_map]
  rfl
theorem rep_eq {n : Nat} {L : List Pt} {O : List Nat} (hO : IsOrder L O) (hn : L.length = n) (X0 Y0 X1 Y1 : Int) (p b q : Nat) (hp : colAt L O n X0 false = p) (hb : colAt L O n X1 true = b) (hq : max p b = q) :
    IsRep L X0 Y0 X1 Y1 (((O.take q).drop p).filter (inL L X0 Y0 X1 Y1)) := by
  have hol := hO.len
  have hpn : p ≤ n := by rw [← hp]; exact colAt_le _ _ _ _ _
  have hbn : b ≤ n := by rw [← hb]; exact colAt_le _ _ _ _ _
  have e1 : O = O.take p ++ ((O.take q).drop p ++ O.drop q) := by
    have h1 := List.take_append_drop q O
    have h2 := List.take_append_drop p (O.take q)
    rw [List.take_take, Nat.min_eq_left (by omega)] at h2
    rw [← List.append_assoc, h2, h1]
  have f1 : (O.take p).filter (inL L X0 Y0 X1 Y1) = [] := by
    rw [List.filter_eq_nil_iff]
    intro i hi
    obtain ⟨k, hk, rfl⟩ := List.getElem_of_mem hi
    rw [List.length_take] at hk
    have := fstIdx_before (fun k => past X0 false (L.getD (O.getD k 0) pt0).x) n k (by unfold colAt at hp; omega)
    rw [past_false, decide_eq_false_iff_not] at this
    rw [List.getElem_take, inL_iff, ← getD_at O 0 (by omega)]
    omega
  have f2 : (O.drop q).filter (inL L X0 Y0 X1 Y1) = [] := by
    rw [List.filter_eq_nil_iff]
    intro i hi
    obtain ⟨k, hk, rfl⟩ := List.getElem_of_mem hi
    rw [List.length_drop] at hk
    have h1 := fstIdx_at (fun k => past X1 true (L.getD (O.getD k 0) pt0).x) n (by unfold colAt at hb; omega)
    unfold colAt at hb
    rw [hb, past_true, decide_eq_true_eq] at h1
    have h2 : (L.getD (O.getD b 0) pt0).x ≤ (L.getD (O.getD (q + k) 0) pt0).x := by
      rcases Nat.lt_or_ge b (q + k) with h | h
      · have := hO.up b (q + k) h (by omega)
        unfold lexLe at this; omega
      · rw [show q + k = b by omega]; exact Int.le_refl _
    rw [List.getElem_drop, inL_iff, ← getD_at O 0 (by omega)]
    omega
  have e2 : O.filter (inL L X0 Y0 X1 Y1) = ((O.take q).drop p).filter (inL L X0 Y0 X1 Y1) := by
    conv => lhs; rw [e1]
    rw [List.filter_append, List.filter_append, f1, f2, List.nil_append, List.append_nil]
  refine ⟨?_⟩
  rw [← e2]
  exact hO.perm.filter _

theorem cntR_len (L : List Pt) (X0 Y0 X1 Y1 : Int) : cntR L X0 Y0 X1 Y1 ≤ L.length := by unfold cntR; exact List.countP_le_length
/-- p is the kth of those in a rectangle by their y (those of the same y in whatever order). -/
structure KthOf (L : List Pt) (X0 Y0 X1 Y1 : Int) (k p : Nat) : Prop where
  lt : p < L.length
  inn : inL L X0 Y0 X1 Y1 p = true
  lo : cntR L X0 Y0 X1 ((L.getD p pt0).y - 1) ≤ k
  hi : k < cntR L X0 Y0 X1 (L.getD p pt0).y
theorem cntR_mono (L : List Pt) (X0 Y0 X1 : Int) {u v : Int} (h : u ≤ v) : cntR L X0 Y0 X1 u ≤ cntR L X0 Y0 X1 v := by
  unfold cntR
  refine List.countP_mono_left fun p _ hp => ?_
  unfold inR at *
  rw [decide_eq_true_eq] at *
  omega
theorem KthOf.mono {L : List Pt} {X0 Y0 X1 Y1 : Int} {k k' p p' : Nat} (h : KthOf L X0 Y0 X1 Y1 k p) (h' : KthOf L X0 Y0 X1 Y1 k' p') (hk : k ≤ k') : (L.getD p pt0).y ≤ (L.getD p' pt0).y := by
  have h1 := h.lo
  have h2 := h'.hi
  apply Int.not_lt.1
  intro hc
  have := cntR_mono L X0 Y0 X1 (show (L.getD p' pt0).y ≤ (L.getD p pt0).y - 1 by omega)
  omega

theorem cntY_mono (L : List Pt) (O : List Nat) (p q : Nat) {u v : Int} {a b : Bool} (h : ∀ y, past v b y = true → past u a y = true) : cntY L O p q u a ≤ cntY L O p q v b := by
  unfold cntY
  refine List.countP_mono_left fun i _ hi => ?_
  cases hv : past v b (L.getD i pt0).y with
  | false =>
    cases hu : past u a (L.getD i pt0).y with
    | false => rfl
    | true => rw [hu] at hi; simp at hi
  | true => rw [h _ hv] at hi; simp at hi
/-- The number at a place of a strict order: what lies below it, and up to it. -/
theorem kth_cnt {n : Nat} {L : List Pt} {O R : List Nat} {V : List Int} (h : GFacts n L O V R) (p q : Nat) (hq : q ≤ n) (kk m : Nat) (hk : IsKth (sg R p q) kk m) :
    m < V.length ∧ cntY L O p q (V.getD m 0) false ≤ kk ∧ kk < cntY L O p q (V.getD m 0) true := by
  have hm := hk.mem
  unfold sg at hm
  obtain ⟨j, hj, e⟩ := List.getElem_of_mem (List.mem_of_mem_take (List.mem_of_mem_drop hm))
  have hr := h.rk j (by rw [← h.rl]; exact hj)
  rw [getD_at R 0 hj, e] at hr
  have e1 := below_eq h p q hq (V.getD m 0) false
  have e2 := below_eq h p q hq (V.getD m 0) true
  have hup : ∀ i j, i < j → j < V.length → V.getD i 0 < V.getD j 0 := fun i j hij hj => by
    have h1 := up_le h.up (Nat.le_of_lt hij) hj
    have := h.up
    exact up_lt h.up hij hj
  rw [fstIdx_uniq (fun i => past (V.getD m 0) false (V.getD i 0)) V.length m (by omega) (fun i hi => by
      rw [past_false, decide_eq_false_iff_not]; have := hup i m hi hr.1; omega) (fun _ => by rw [past_false, decide_eq_true_eq]; exact Int.le_refl _)] at e1
  rw [fstIdx_uniq (fun i => past (V.getD m 0) true (V.getD i 0)) V.length (m + 1) (by omega) (fun i hi => by
      rw [past_true, decide_eq_false_iff_not]
      have := up_le h.up (show i ≤ m by omega) hr.1; omega) (fun hl => by rw [past_true, decide_eq_true_eq]; exact hup m (m + 1) (by omega) hl)] at e2
  unfold IsKth at hk
  exact ⟨hr.1, by rw [← e1]; exact hk.1, by rw [← e2]; exact hk.2⟩

/-- All that Kth reckons. -/
theorem kth_facts {n : Nat} {L : List Pt} {O R : List Nat} {V : List Int} (h : GFacts n L O V R) (X0 Y0 X1 Y1 : Int) (p b q : Nat) (hp : colAt L O n X0 false = p) (hb : colAt L O n X1 true = b) (hq : max p b = q) (k low : Nat) (hk : k < cntR L X0 Y0 X1 Y1)
    (hlow : cntY L O p q Y0 false = low) (hn : n ≤ 150) :
    low + k < q - p ∧ ∀ m, IsKth (sg R p q) (low + k) m → ∃ y s, V.getD m 0 = y ∧ m < V.length ∧ cntY L O p q y false = s ∧ low ≤ s ∧ s ≤ low + k ∧ low + k - s < cntR L X0 y X1 y ∧ s ≤ 1000000 ∧
      ∀ out, IsRep L X0 y X1 y out → ∀ t, t ∈ out → KthOf L X0 Y0 X1 Y1 k t := by
  have hbn : b ≤ n := by rw [← hb]; exact colAt_le _ _ _ _ _
  have hpn : p ≤ n := by rw [← hp]; exact colAt_le _ _ _ _ _
  have hol := h.ord.len
  have hl := h.len
  have hc := fun u v => count_eq h.ord h.len X0 u X1 v p b hp hb
  rw [hq] at hc
  have hle : ∀ y a, cntY L O p q y a ≤ q - p := fun y a => by
    unfold cntY
    refine Nat.le_trans List.countP_le_length ?_
    simp only [List.length_drop, List.length_take]
    omega
  have h1 := hc Y0 Y1
  have hY1 := hle Y1 true
  refine ⟨by omega, fun m hm => ?_⟩
  obtain ⟨hmv, lo, hi⟩ := kth_cnt h p q (by omega) _ m hm
  obtain ⟨y, hy⟩ : ∃ y, V.getD m 0 = y := ⟨_, rfl⟩
  rw [hy] at lo hi
  obtain ⟨s, hs⟩ : ∃ s, cntY L O p q y false = s := ⟨_, rfl⟩
  rw [hs] at lo
  have y1 : y ≤ Y1 := by
    apply Int.not_lt.1
    intro hlt
    have := cntY_mono L O p q (u := Y1) (v := y) (a := true) (b := false) (fun z hz => by
      rw [past_false, decide_eq_true_eq] at hz; rw [past_true, decide_eq_true_eq]; omega)
    omega
  have y0 : Y0 ≤ y := by
    apply Int.not_lt.1
    intro hlt
    have := cntY_mono L O p q (u := y) (v := Y0) (a := true) (b := false) (fun z hz => by
      rw [past_false, decide_eq_true_eq] at hz; rw [past_true, decide_eq_true_eq]; omega)
    omega
  have hls : low ≤ s := by
    have := cntY_mono L O p q (u := Y0) (v := y) (a := false) (b := false) (fun z hz => by
      rw [past_false, decide_eq_true_eq] at *; omega)
    omega
  have h2 := hc y y
  have h3 := hc Y0 y
  have h4 := hc Y0 (y - 1)
  have h5 : cntY L O p q (y - 1) true = s := by
    rw [← hs]
    apply Nat.le_antisymm
    · refine cntY_mono L O p q fun z hz => ?_
      rw [past_false, decide_eq_true_eq] at hz
      rw [past_true, decide_eq_true_eq]; omega
    · refine cntY_mono L O p q fun z hz => ?_
      rw [past_true, decide_eq_true_eq] at hz
      rw [past_false, decide_eq_true_eq]; omega
  have h6 := hle y false
  refine ⟨y, s, hy, hmv, hs, hls, lo, by omega, by omega, fun out ho t ht => ?_⟩
  obtain ⟨htl, hti⟩ := (ho.mem t).1 ht
  rw [inL_iff] at hti
  have hty : (L.getD t pt0).y = y := by omega
  refine ⟨htl, ?_, ?_, ?_⟩
  · rw [inL_iff]; omega
  · rw [hty]; omega
  · rw [hty]; omega

end Go.Proofs.YtladgklnacihkaaGreat

/- Package grid: the plain facts of Top. -/
namespace Go.Proofs.YtladgklnacihkaaGreat
set_option linter.unusedVariables false
open Hp (nlt nlt_iff nlt_not nlt_ord nlt_tot nlt_irr Ord HeapF heap_root)

/-- The heavier a place, the smaller its key. -/
def wtL (L : List Pt) (i : Nat) : Int := - (L.getD i pt0).w
theorem wt_ord (far : Nat → Int) : Ord (nlt far) := by
  refine ⟨fun a b h => ?_, fun a b c h1 h2 => ?_⟩
  · rw [nlt_not]; have := (nlt_iff _ _ _).1 h; omega
  · rw [nlt_not]; have := (nlt_not _ _ _).1 h1; have := (nlt_not _ _ _).1 h2; omega
/-- Out: the first ones of S by a key; X: the others. -/
structure TopInv (far : Nat → Int) (S Out X : List Nat) : Prop where
  nd : S.Nodup
  perm : (Out ++ X).Perm S
  up : Out.Pairwise (fun a b => nlt far a b = true)
  sep : ∀ o ∈ Out, ∀ x ∈ X, nlt far o x = true
theorem top_start {far : Nat → Int} {S X : List Nat} (hS : S.Nodup) (h : X.Perm S) : TopInv far S [] X := ⟨hS, h, List.Pairwise.nil, fun o ho => absurd ho (by simp)⟩
theorem top_perm {far : Nat → Int} {S Out X X' : List Nat} (h : TopInv far S Out X) (hp : X'.Perm X) : TopInv far S Out X' :=
  ⟨h.nd, (hp.append_left Out).trans h.perm, h.up, fun o ho x hx => h.sep o ho x (hp.mem_iff.1 hx)⟩
theorem top_step {far : Nat → Int} {S Out X X' : List Nat} {m : Nat} (h : TopInv far S Out X) (hl : X.length = m + 1) (hh : HeapF (nlt far) X (m + 1) 0) (hp : (X.getD 0 0 :: X').Perm X) : TopInv far S (Out ++ [X.getD 0 0]) X' := by
  have h1 := top_perm h hp
  have hr := heap_root (wt_ord far) hh
  generalize X.getD 0 0 = r at *
  have hnd : (Out ++ r :: X').Nodup := h1.perm.nodup_iff.2 h.nd
  have hnd2 := (List.nodup_append.1 hnd).2.1
  refine ⟨h.nd, ?_, ?_, ?_⟩
  · rw [List.append_assoc]; exact h1.perm
  · rw [List.pairwise_append]
    refine ⟨h.up, List.pairwise_singleton _ _, fun a ha b hb => ?_⟩
    rw [List.mem_singleton.1 hb]
    exact h1.sep a ha r List.mem_cons_self
  · intro o ho x hx
    rcases List.mem_append.1 ho with ho | ho
    · exact h1.sep o ho x (List.mem_cons_of_mem _ hx)
    · rw [List.mem_singleton.1 ho]
      have hxX : x ∈ X := hp.mem_iff.1 (List.mem_cons_of_mem _ hx)
      obtain ⟨k, hk, rfl⟩ := List.getElem_of_mem hxX
      have h2 := hr k (by omega)
      rw [getD_at X 0 hk] at h2
      refine nlt_tot h2 (fun e => ?_)
      have := (List.nodup_cons.1 hnd2).1
      rw [e] at hx
      exact this hx
/-- What Top hands back. -/
structure IsTop (far : Nat → Int) (S : List Nat) (k : Nat) (Out : List Nat) : Prop where
  inv : ∃ X, TopInv far S Out X
  len : Out.length = min k S.length
theorem top_end {far : Nat → Int} {S Out X : List Nat} {k : Nat} (h : TopInv far S Out X) (hk : Out.length ≤ k) (he : ¬ Out.length < k ∨ X.length = 0) : IsTop far S k Out :=
  ⟨⟨X, h⟩, by have := h.perm.length_eq; rw [List.length_append] at this; omega⟩
theorem IsTop.mem {far : Nat → Int} {S Out : List Nat} {k : Nat} (h : IsTop far S k Out) (o : Nat) (ho : o ∈ Out) : o ∈ S := by
  obtain ⟨X, hx⟩ := h.inv
  exact hx.perm.mem_iff.1 (List.mem_append_left _ ho)
theorem IsTop.nodup {far : Nat → Int} {S Out : List Nat} {k : Nat} (h : IsTop far S k Out) : Out.Nodup := by
  obtain ⟨X, hx⟩ := h.inv
  exact (List.nodup_append.1 (hx.perm.nodup_iff.2 hx.nd)).1
theorem IsTop.le {far : Nat → Int} {S Out : List Nat} {k : Nat} (h : IsTop far S k Out) (i j : Nat) (hij : i < j) (hj : j < Out.length) : far (Out.getD i 0) ≤ far (Out.getD j 0) := by
  obtain ⟨X, hx⟩ := h.inv
  have := List.pairwise_iff_getElem.1 hx.up i j (by omega) hj hij
  rw [getD_at Out 0 (by omega), getD_at Out 0 hj]
  rw [nlt_iff] at this; omega
theorem IsTop.rest {far : Nat → Int} {S Out : List Nat} {k : Nat} (h : IsTop far S k Out) (s : Nat) (hs : s ∈ S) (hn : s ∉ Out) (o : Nat) (ho : o ∈ Out) : far o ≤ far s := by
  obtain ⟨X, hx⟩ := h.inv
  have hsx : s ∈ X := by
    rcases List.mem_append.1 (hx.perm.mem_iff.2 hs) with h1 | h1
    · exact absurd h1 hn
    · exact h1
  have := hx.sep o ho s hsx
  rw [nlt_iff] at this; omega

end Go.Proofs.YtladgklnacihkaaGreat


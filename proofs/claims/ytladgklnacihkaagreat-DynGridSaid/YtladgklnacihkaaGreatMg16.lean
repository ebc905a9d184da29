import Derived.Test.YtladgklnacihkaaGreatMg15
import Derived.Test.YtladgklnacihkaaGreatMg10
/- Package grid: columns, below. -/
namespace Go.Proofs.YtladgklnacihkaaGreat
set_option linter.unusedVariables false
open Go.RowKit

/-- Behind a number (or at it). -/
def past (y : Int) (at' : Bool) (v : Int) : Bool := decide (y < v) || (!at' && decide (v = y))
theorem past_mono {y : Int} {at' : Bool} {u v : Int} (h : u ≤ v) (hu : past y at' u = true) : past y at' v = true := by
  unfold past at *
  cases at' <;> simp at * <;> omega
/-- The first place at which a test is met. -/
def fstIdx (p : Nat → Bool) (n : Nat) : Nat := (List.range n).findIdx p
theorem fstIdx_uniq (p : Nat → Bool) (n k : Nat) (hk : k ≤ n) (h1 : ∀ i, i < k → p i = false) (h2 : k < n → p k = true) : fstIdx p n = k := by
  unfold fstIdx
  rcases Nat.lt_or_ge k n with h | h
  · rw [List.findIdx_eq (by rw [List.length_range]; exact h)]
    refine ⟨by rw [List.getElem_range]; exact h2 h, fun j hj => ?_⟩
    rw [List.getElem_range]; simpa using h1 j hj
  · obtain rfl : k = n := by omega
    have := List.findIdx_eq_length_of_false (xs := List.range k) (p := p) (fun x hx => by
      simpa using h1 x (List.mem_range.1 hx))
    rw [this, List.length_range]
theorem fstIdx_le (p : Nat → Bool) (n : Nat) : fstIdx p n ≤ n := by
  have := List.findIdx_le_length (xs := List.range n) (p := p)
  rwa [List.length_range] at this
theorem fstIdx_before (p : Nat → Bool) (n i : Nat) (h : i < fstIdx p n) : p i = false := by
  have h1 := List.not_of_lt_findIdx (xs := List.range n) (p := p) h
  rw [List.getElem_range] at h1
  simpa using h1
theorem fstIdx_at (p : Nat → Bool) (n : Nat) (h : fstIdx p n < n) : p (fstIdx p n) = true := by
  have h1 := List.findIdx_getElem (xs := List.range n) (p := p) (w := by rw [List.length_range]; exact h)
  rw [List.getElem_range] at h1
  exact h1
attribute [irreducible] fstIdx past

/-- Those of a range of the order that are not behind a number. -/
def cntY (L : List Pt) (O : List Nat) (a b : Nat) (y : Int) (at' : Bool) : Nat := ((O.take b).drop a).countP fun i => !past y at' (L.getD i pt0).y
theorem below_eq {n : Nat} {L : List Pt} {O R : List Nat} {V : List Int} (h : GFacts n L O V R) (a b : Nat) (hb : b ≤ n) (y : Int) (at' : Bool) :
    cntBelow (sg R a b) (fstIdx (fun i => past y at' (V.getD i 0)) V.length) = cntY L O a b y at' := by
  have hol := h.ord.len
  unfold cntBelow cntY sg
  have hR := rank_cnt (fun v => !past y at' v) V h.up (fstIdx (fun i => past y at' (V.getD i 0)) V.length)
    (fun i hi hv => by rw [fstIdx_before (fun i => past y at' (V.getD i 0)) V.length i hi]; rfl)
    (fun i hi hv => by
      have h1 := fstIdx_at (fun i => past y at' (V.getD i 0)) V.length (by omega)
      rw [past_mono (up_le h.up hi hv) h1]; rfl) (((O.take b).drop a).map fun i => (L.getD i pt0).y) ((R.take b).drop a)
    (by
      simp only [List.length_map, List.length_drop, List.length_take]
      have := h.rl; have := h.len; omega)
    (fun i hi => by
      simp only [List.length_map, List.length_drop, List.length_take] at hi
      have hl := h.len
      have hi2 : a + i < n := by omega
      have h1 := h.rk (a + i) hi2
      have e1 : ((R.take b).drop a).getD i 0 = R.getD (a + i) 0 := by
        rw [getD_at _ _ (by rw [List.length_drop, List.length_take, h.rl]; omega), List.getElem_drop, List.getElem_take, getD_at _ _ (by rw [h.rl]; exact hi2)]
      have e2 : (((O.take b).drop a).map fun i => (L.getD i pt0).y).getD i 0 = (L.getD (O.getD (a + i) 0) pt0).y := by
        rw [getD_at _ _ (by rw [List.length_map, List.length_drop, List.length_take]; omega), List.getElem_map, List.getElem_drop, List.getElem_take, getD_at O 0 (by omega)]
      rw [e1, e2]
      exact h1)
  rw [hR, List.countP_map]
  rfl

set_option maxRecDepth 100000 in
set_option maxHeartbeats 2000000 in
theorem coltest_any (bq b2 b3 g k n : Nat) (from' : Int) (above : Bool) (a : Option Addr) (cap : Nat) (L : List Pt) (oa : Option Addr) (oc : Nat) (O : List Nat) (V : List Int) (R : List Nat) (vv wv : Value) (W : World)
    (h : GIdx0 W g a cap n L oa oc O vv wv) (hf : GFacts n L O V R) (hn : n ≤ 1000) (c1 : W.cell? ⟨bq, 0, none⟩ = some (.pointer (some ⟨g, 0, none⟩))) (c2 : W.cell? ⟨b2, 0, none⟩ = some (.int .i64 from')) (c3 : W.cell? ⟨b3, 0, none⟩ = some (.bool above)) (hk : k < n) :
    Calls Tryz.prog 34 #[.int .i64 k, .pointer (some ⟨bq, 0, none⟩), .pointer (some ⟨b2, 0, none⟩), .pointer (some ⟨b3, 0, none⟩)] W fun e w' => e = .returned (.bool (past from' above (L.getD (O.getD k 0) pt0).x)) ∧ Drew W w' := by
  have hol := hf.ord.len
  have hl := hf.len
  obtain ⟨ob, oo, rfl, co⟩ := h.ord.at k (by rw [List.length_map]; omega)
  rw [List.getElem_map, ← getD_at O 0 (by omega)] at co
  have hil := hf.ord.lt k (by omega)
  obtain ⟨pb, po, rfl, hpb, cp⟩ := h.ps.at ptL_len (by omega) (O.getD k 0) (by omega)
  rw [← getD_at L pt0 (by omega)] at cp
  have g0 := h.bx.cell 0 rfl
  have g1 := h.bx.cell 1 rfl
  generalize L.getD (O.getD k 0) pt0 = p at *
  generalize O.getD k 0 = i at *
  have p0 : W.cell? ⟨pb, po + i * 3, none⟩ = some (.int .i64 p.x) := cp 0 (by omega)
  have co' : W.cell? ⟨ob, oo + k, none⟩ = some (.int .i64 (i : Int)) := co
  have hin : (i : Int) < n := by omega
  have hkz : (k : Int) < n := by omega
  have hor : (decide (from' < p.x) = true ∧ Kp (past from' above p.x = true)) ∨ (decide (from' < p.x) = false ∧ above = true ∧ Kp (past from' above p.x = false)) ∨ (decide (from' < p.x) = false ∧ above = false ∧ (p.x == from') = true ∧ Kp (past from' above p.x = true)) ∨ (decide (from' < p.x) = false ∧ above = false ∧ (p.x == from') = false ∧ Kp (past from' above p.x = false)) := by
    unfold past
    by_cases h1 : from' < p.x
    · exact .inl ⟨decide_eq_true h1, ⟨by simp [h1]⟩⟩
    · cases above with
      | true => exact .inr (.inl ⟨decide_eq_false h1, rfl, ⟨by simp [h1]⟩⟩)
      | false =>
        by_cases h2 : p.x = from'
        · exact .inr (.inr (.inl ⟨decide_eq_false h1, rfl, by simpa using h2, ⟨by simp [h2]⟩⟩))
        · exact .inr (.inr (.inr ⟨decide_eq_false h1, rfl, by simpa using h2, ⟨by simp [h1, h2]⟩⟩))
  generalize past from' above p.x = r at *
  clear h hf hol hl cp co hil hpb
  rcases hor with ⟨t1, HE⟩ | ⟨t1, rfl, HE⟩ | ⟨t1, rfl, t2, HE⟩ | ⟨t1, rfl, t2, HE⟩
  all_goals
    rw [HE.out]
    clear HE
    go_enter Tryz.func34, Tryz.ntmps34
    go_wp2
    go_quiet (fail)
    have c2' : (W.drewN nq).cell? ⟨b2, 0, none⟩ = some (.int .i64 from') := c2
    have c3' := c3
    go_wp2
    go_ret
    exact ⟨rfl, nq, rfl⟩

end Go.Proofs.YtladgklnacihkaaGreat

/- Package grid: columns, below, Count. -/
namespace Go.Proofs.YtladgklnacihkaaGreat
set_option linter.unusedVariables false
open Go.RowKit

/-- The first place of an order from which on points stand behind a number (or at it). -/
def colAt (L : List Pt) (O : List Nat) (n : Nat) (from' : Int) (above : Bool) : Nat := fstIdx (fun k => past from' above (L.getD (O.getD k 0) pt0).x) n
section
variable {g n : Nat} {a : Option Addr} {cap : Nat} {L : List Pt} {oa : Option Addr} {oc : Nat} {O : List Nat} {V : List Int} {R : List Nat} {vv wv : Value}

set_option maxRecDepth 100000 in
set_option maxHeartbeats 1000000 in
theorem first_any (bq : Nat) (from' : Int) (above : Bool) (w : World) (h : GIdx0 w g a cap n L oa oc O vv wv) (hf : GFacts n L O V R) (hn : n ≤ 1000) (c1 : w.cell? ⟨bq, 0, none⟩ = some (.pointer (some ⟨g, 0, none⟩))) :
    Calls Tryz.prog 32 #[.int .i64 from', .bool above, .pointer (some ⟨bq, 0, none⟩)] w fun e w' => e = .returned (.int .i64 (colAt L O n from' above : Nat)) ∧ Below w.heap.size w w' := by
  have eg : ∀ args w, (callFunc 34 args).run Tryz.prog w = .ok (.enter 34 args) w := enters_of Tryz.func34 (by kernel_rfl) rfl
  obtain ⟨w2, hw2⟩ : ∃ w2, w2 = (w.alloc (.cells #[.int .i64 from'] 3)).alloc (.cells #[.bool above] 4) := ⟨_, rfl⟩
  have HB := Kp.mk (show Below w.heap.size w w2 from by rw [hw2]; exact below_then_alloc (below_alloc (Nat.le_refl _) _) _)
  have H2 := Kp.mk (h.below HB.out)
  have c1' : w2.cell? ⟨bq, 0, none⟩ = some (.pointer (some ⟨g, 0, none⟩)) := (HB.out.cell (p := ⟨bq, 0, none⟩) (World.block_lt_of_cell? _ _ c1)).trans c1
  have c2 : w2.cell? ⟨w.heap.size, 0, none⟩ = some (.int .i64 from') := by rw [hw2]; exact ((Box.new w #[.int .i64 from'] 3).alloc _).cell 0 rfl
  have c3 : w2.cell? ⟨w.heap.size + 1, 0, none⟩ = some (.bool above) := by
    have := (Box.new (w.alloc (.cells #[.int .i64 from'] 3)) #[.bool above] 4).cell 0 rfl
    rw [alloc_size] at this
    rw [hw2]; exact this
  have g1 := H2.out.bx.cell 1 rfl
  have CS := Kp.mk (search_any 34 #[.pointer (some ⟨bq, 0, none⟩), .pointer (some ⟨w.heap.size, 0, none⟩), .pointer (some ⟨w.heap.size + 1, 0, none⟩)] (fun k => past from' above (L.getD (O.getD k 0) pt0).x) n eg w2 (by omega)
    (fun W hd k hk => coltest_any bq w.heap.size (w.heap.size + 1) g k n from' above a cap L oa oc O V R vv wv W (H2.out.below (hd.below _)) hf hn ((hd.cell _).trans c1') ((hd.cell _).trans c2) ((hd.cell _).trans c3) hk)
    (fun i j hij hj hi => past_mono (by
      rcases Nat.eq_or_lt_of_le hij with e | e
      · rw [e]; exact Int.le_refl _
      · have := hf.ord.up i j e (by rw [hf.ord.len, hf.len]; exact hj)
        unfold lexLe at this; omega) hi))
  have hw3 := hw2.symm
  clear h hf c2 c3 hw2
  go_enter Tryz.func32, Tryz.ntmps32
  go_wp2_with fail
  refine CS.out.mono ?_
  rintro e w' ⟨k, rfl, hk, h1, h2, hd⟩
  have HE := Kp.mk (show colAt L O n from' above = k from fstIdx_uniq _ _ _ hk h1 h2)
  have HB2 := Kp.mk (below_step HB.out (hd.below _))
  clear h1 h2 hd CS
  go_wp2
  go_ret
  exact ⟨by rw [HE.out]; rfl, HB2.out⟩

theorem colAt_le (L : List Pt) (O : List Nat) (n : Nat) (y : Int) (b : Bool) : colAt L O n y b ≤ n := fstIdx_le _ _
theorem max_cast (p q : Nat) : max (p : Int) q = ((max p q : Nat) : Int) := by omega
attribute [local irreducible] colAt

set_option maxRecDepth 100000 in
set_option maxHeartbeats 1000000 in
theorem columns_any (X0 Y0 X1 Y1 : Int) (w : World) (h : GIdx0 w g a cap n L oa oc O vv wv) (hf : GFacts n L O V R) (hn : n ≤ 1000) :
    Calls Tryz.prog 16 #[.pointer (some ⟨g, 0, none⟩), .agg #[.int .i64 X0, .int .i64 Y0, .int .i64 X1, .int .i64 Y1]] w fun e w' => e = .returned (.tuple #[.int .i64 (colAt L O n X0 false : Nat), .int .i64 (max (colAt L O n X0 false) (colAt L O n X1 true) : Nat)]) ∧ Below w.heap.size w w' := by
  have eg : ∀ args w, (callFunc 32 args).run Tryz.prog w = .ok (.enter 32 args) w := enters_of Tryz.func32 (by kernel_rfl) rfl
  obtain ⟨w2, hw2⟩ : ∃ w2, w2 = (w.alloc (.cells #[.pointer (some ⟨g, 0, none⟩)] 56)).alloc (.cells #[.int .i64 X0, .int .i64 Y0, .int .i64 X1, .int .i64 Y1] 30) := ⟨_, rfl⟩
  have HB := Kp.mk (show Below w.heap.size w w2 from by rw [hw2]; exact below_then_alloc (below_alloc (Nat.le_refl _) _) _)
  have H2 := Kp.mk (h.below HB.out)
  have c1 : w2.cell? ⟨w.heap.size, 0, none⟩ = some (.pointer (some ⟨g, 0, none⟩)) := by rw [hw2]; exact ((Box.new w #[.pointer (some ⟨g, 0, none⟩)] 56).alloc _).cell 0 rfl
  have hbx : Box w2 (w.heap.size + 1) #[.int .i64 X0, .int .i64 Y0, .int .i64 X1, .int .i64 Y1] 30 := by
    have := Box.new (w.alloc (.cells #[.pointer (some ⟨g, 0, none⟩)] 56)) #[.int .i64 X0, .int .i64 Y0, .int .i64 X1, .int .i64 Y1] 30
    rw [alloc_size] at this
    rw [hw2]; exact this
  have r0 := later_cell (show w2.cell? ⟨w.heap.size + 1, 0, none⟩ = some (.int .i64 X0) from hbx.cell 0 rfl)
  have r2 := later_cell (show w2.cell? ⟨w.heap.size + 1, 2, none⟩ = some (.int .i64 X1) from hbx.cell 2 rfl)
  have C1 := Kp.mk (fun x : Later w2 => first_any w.heap.size X0 false x.val (H2.out.below x.le) hf hn (later_cell c1 x))
  have C2 := Kp.mk (fun x : Later w2 => first_any w.heap.size X1 true x.val (H2.out.below x.le) hf hn (later_cell c1 x))
  obtain ⟨p, hp⟩ : ∃ p, p = colAt L O n X0 false := ⟨_, rfl⟩
  obtain ⟨q, hq⟩ : ∃ q, q = colAt L O n X1 true := ⟨_, rfl⟩
  have hpn : p ≤ n := by rw [hp]; exact colAt_le _ _ _ _ _
  have hqn : q ≤ n := by rw [hq]; exact colAt_le _ _ _ _ _
  rw [← hp] at C1 ⊢
  rw [← hq] at C2 ⊢
  have hw3 := hw2.symm
  have HEM := Kp.mk (max_cast p q)
  clear h hf hw2 hbx c1 hp hq
  go_enter Tryz.func16, Tryz.ntmps16
  go_wp2
  refine region_later (by kernel_rfl) (by kernel_rfl) ?_
  iterate 10 (go_big_quiet_step ((go_at_fn 32; first | (with_reducible exact q_later (C1.out _)) | (with_reducible exact q_later (C2.out _)))))
  refine wpQuiet_nil ?_
  rintro w' ⟨xl, rfl⟩
  have HB5 := Kp.mk (below_step HB.out xl.le)
  clear r0 r2 C1 C2
  go_wp2
  refine bodyPost_ret (v := .tuple #[.int .i64 p, .int .i64 (max (p : Int) q)]) (by simp [results, Tryz.results16, go_sem]) rfl ?_
  exact ⟨by rw [HEM.out], HB5.out⟩

end
end Go.Proofs.YtladgklnacihkaaGreat

/- Package grid: below, Count. -/
namespace Go.Proofs.YtladgklnacihkaaGreat
set_option linter.unusedVariables false
open Go.RowKit

set_option maxRecDepth 100000 in
set_option maxHeartbeats 2000000 in
theorem beltest_any (bq b2 b3 g k n : Nat) (y : Int) (at' : Bool) (a : Option Addr) (cap : Nat) (L : List Pt) (oa : Option Addr) (oc : Nat) (O : List Nat) (va : Option Addr) (v vc : Nat) (V : List Int) (wa : Option Addr) (wc : Nat) (R : List Nat) (W : World)
    (h : GIdx W g a cap n L oa oc O va v vc V wa wc R) (hv : v ≤ 1000) (c1 : W.cell? ⟨bq, 0, none⟩ = some (.pointer (some ⟨g, 0, none⟩))) (c2 : W.cell? ⟨b2, 0, none⟩ = some (.int .i64 y)) (c3 : W.cell? ⟨b3, 0, none⟩ = some (.bool at')) (hk : k < v) :
    Calls Tryz.prog 35 #[.int .i64 k, .pointer (some ⟨bq, 0, none⟩), .pointer (some ⟨b2, 0, none⟩), .pointer (some ⟨b3, 0, none⟩)] W fun e w' => e = .returned (.bool (past y at' (V.getD k 0))) ∧ Drew W w' := by
  have hvl := h.vlen
  obtain ⟨ob, oo, rfl, co⟩ := h.vals.at k (by omega)
  rw [← getD_at V 0 (by omega)] at co
  have g2 := h.bx.cell 2 rfl
  generalize V.getD k 0 = x at *
  have hkz : (k : Int) < v := by omega
  have hor : (decide (y < x) = true ∧ Kp (past y at' x = true)) ∨ (decide (y < x) = false ∧ at' = true ∧ Kp (past y at' x = false)) ∨ (decide (y < x) = false ∧ at' = false ∧ (x == y) = true ∧ Kp (past y at' x = true)) ∨ (decide (y < x) = false ∧ at' = false ∧ (x == y) = false ∧ Kp (past y at' x = false)) := by
    unfold past
    by_cases h1 : y < x
    · exact .inl ⟨decide_eq_true h1, ⟨by simp [h1]⟩⟩
    · cases at' with
      | true => exact .inr (.inl ⟨decide_eq_false h1, rfl, ⟨by simp [h1]⟩⟩)
      | false =>
        by_cases h2 : x = y
        · exact .inr (.inr (.inl ⟨decide_eq_false h1, rfl, by simpa using h2, ⟨by simp [h2]⟩⟩))
        · exact .inr (.inr (.inr ⟨decide_eq_false h1, rfl, by simpa using h2, ⟨by simp [h1, h2]⟩⟩))
  generalize past y at' x = r at *
  clear h hvl
  rcases hor with ⟨t1, HE⟩ | ⟨t1, rfl, HE⟩ | ⟨t1, rfl, t2, HE⟩ | ⟨t1, rfl, t2, HE⟩
  all_goals
    rw [HE.out]
    clear HE
    go_enter Tryz.func35, Tryz.ntmps35
    go_wp2
    go_quiet (fail)
    go_wp2
    go_ret
    exact ⟨rfl, nq, rfl⟩

section
variable {g n : Nat} {a : Option Addr} {cap : Nat} {L : List Pt} {oa : Option Addr} {oc : Nat} {O : List Nat} {va : Option Addr} {v vc : Nat} {V : List Int} {wa : Option Addr} {wc : Nat} {R : List Nat}

set_option maxRecDepth 100000 in
set_option maxHeartbeats 2000000 in
theorem gbelow_any (p q : Nat) (y : Int) (at' : Bool) (w : World) (h : GIdx w g a cap n L oa oc O va v vc V wa wc R) (hf : GFacts n L O V R) (hn : n ≤ 150) (hpq : p ≤ q) (hq : q ≤ n) :
    Calls Tryz.prog 17 #[.pointer (some ⟨g, 0, none⟩), .int .i64 p, .int .i64 q, .int .i64 y, .bool at'] w fun e w' => e = .returned (.int .i64 (cntY L O p q y at' : Nat)) ∧ Below w.heap.size w w' := by
  have eg : ∀ args w, (callFunc 35 args).run Tryz.prog w = .ok (.enter 35 args) w := enters_of Tryz.func35 (by kernel_rfl) rfl
  obtain ⟨w2, hw2⟩ : ∃ w2, w2 = ((w.alloc (.cells #[.pointer (some ⟨g, 0, none⟩)] 56)).alloc (.cells #[.int .i64 y] 3)).alloc (.cells #[.bool at'] 4) := ⟨_, rfl⟩
  have HB := Kp.mk (show Below w.heap.size w w2 from by rw [hw2]; exact below_then_alloc (below_then_alloc (below_alloc (Nat.le_refl _) _) _) _)
  have H2 := Kp.mk (h.below HB.out)
  have c1 : w2.cell? ⟨w.heap.size, 0, none⟩ = some (.pointer (some ⟨g, 0, none⟩)) := by rw [hw2]; exact (((Box.new w #[.pointer (some ⟨g, 0, none⟩)] 56).alloc _).alloc _).cell 0 rfl
  have c2 : w2.cell? ⟨w.heap.size + 1, 0, none⟩ = some (.int .i64 y) := by
    have := ((Box.new (w.alloc (.cells #[.pointer (some ⟨g, 0, none⟩)] 56)) #[.int .i64 y] 3).alloc (.cells #[.bool at'] 4)).cell 0 rfl
    rw [alloc_size] at this
    rw [hw2]; exact this
  have c3 : w2.cell? ⟨w.heap.size + 1 + 1, 0, none⟩ = some (.bool at') := by
    have := (Box.new ((w.alloc (.cells #[.pointer (some ⟨g, 0, none⟩)] 56)).alloc (.cells #[.int .i64 y] 3)) #[.bool at'] 4).cell 0 rfl
    rw [alloc_size, alloc_size] at this
    rw [hw2]; exact this
  have g2 := H2.out.bx.cell 2 rfl
  have hvl := H2.out.vlen
  have hvn := hf.vl
  have CS := Kp.mk (search_any 35 #[.pointer (some ⟨w.heap.size, 0, none⟩), .pointer (some ⟨w.heap.size + 1, 0, none⟩), .pointer (some ⟨w.heap.size + 1 + 1, 0, none⟩)] (fun k => past y at' (V.getD k 0)) v eg w2 (by omega)
    (fun W hd k hk => beltest_any w.heap.size (w.heap.size + 1) (w.heap.size + 1 + 1) g k n y at' a cap L oa oc O va v vc V wa wc R W (H2.out.below (hd.below _)) (by omega) ((hd.cell _).trans c1) ((hd.cell _).trans c2) ((hd.cell _).trans c3) hk)
    (fun i j hij hj hi => past_mono (up_le hf.up hij (by omega)) hi))
  have HE0 := Kp.mk (show ∀ k, k ≤ v → (∀ i, i < k → past y at' (V.getD i 0) = false) → (k < v → past y at' (V.getD k 0) = true) → cntBelow (sg R p q) k = cntY L O p q y at' from fun k hk h1 h2 => by
    rw [← below_eq hf p q hq y at', hvl]
    congr 1
    exact (fstIdx_uniq _ _ _ hk h1 h2).symm)
  have HF := Kp.mk hf
  have hw3 := hw2.symm
  have hvn' : v ≤ n := by omega
  obtain ⟨r, hr⟩ : ∃ r, cntY L O p q y at' = r := ⟨_, rfl⟩
  rw [hr] at HE0 ⊢
  clear h hf c2 c3 hw2 hvl hvn hr
  go_enter Tryz.func17, Tryz.ntmps17
  go_wp2_with fail
  refine CS.out.mono ?_
  rintro e w3 ⟨k, rfl, hk, h1, h2, hd⟩
  have HE := Kp.mk (HE0.out k hk h1 h2)
  have H3 := Kp.mk (H2.out.below (hd.below _))
  have d1 := (hd.cell ⟨w.heap.size, 0, none⟩).trans c1
  have g3 := H3.out.bx.cell 3 rfl
  have HB3 := Kp.mk (below_step HB.out (hd.below _))
  have CW := Kp.mk (wBelow_any wa wc 8 n k p q R w3 H3.out.wave HF.out.rl (by omega) (by omega) (by omega) hpq hq (fun z hz => by
    obtain ⟨i, hi, rfl⟩ := List.getElem_of_mem hz
    have := HF.out.rk i (by rw [← HF.out.rl]; exact hi)
    rw [getD_at R 0 hi] at this
    have := HF.out.vl
    omega) (by omega))
  rw [HE.out] at CW
  clear h1 h2 hd CS HE0 HE c1 g2 hw3
  go_wp2_with fail
  refine CW.out.mono ?_
  rintro e w4 ⟨rfl, hb4⟩
  have HB4 := Kp.mk (below_step HB3.out hb4)
  clear hb4 CW
  go_wp2
  go_ret
  exact ⟨rfl, HB4.out⟩

end
end Go.Proofs.YtladgklnacihkaaGreat


import Derived.Test.YteeeikninigeoaaGreatDoorMg16
/- Package grid: below, Count. -/
namespace Go.Proofs.YteeeikninigeoaaGreatDoor
set_option linter.unusedVariables false
open Go.RowKit

set_option maxRecDepth 100000 in
set_option maxHeartbeats 2000000 in
theorem beltest_any (bq b2 b3 g k n : Nat) (y : Int) (at' : Bool) (a : Option Addr) (cap : Nat) (L : List Pt) (oa : Option Addr) (oc : Nat) (O : List Nat) (va : Option Addr) (v vc : Nat) (V : List Int) (wa : Option Addr) (wc : Nat) (R : List Nat) (W : World)
    (h : GIdx W g a cap n L oa oc O va v vc V wa wc R) (hv : v ≤ 1000) (c1 : W.cell? ⟨bq, 0, none⟩ = some (.pointer (some ⟨g, 0, none⟩))) (c2 : W.cell? ⟨b2, 0, none⟩ = some (.int .i64 y)) (c3 : W.cell? ⟨b3, 0, none⟩ = some (.bool at')) (hk : k < v) :
    Calls Tryz.prog 164 #[.int .i64 k, .pointer (some ⟨bq, 0, none⟩), .pointer (some ⟨b2, 0, none⟩), .pointer (some ⟨b3, 0, none⟩)] W fun e w' => e = .returned (.bool (past y at' (V.getD k 0))) ∧ Drew W w' := by
  have hvl := h.vlen
  obtain ⟨ob, oo, rfl, co⟩ := h.vals.at k (by omega)
  rw [← getD_at V 0 (by omega)] at co
  have g2 := h.bx.cell 2 rfl
  generalize V.getD k 0 = x at *
  have hkz : (k : Int) < v := by omega
  have hor : (decide (y < x) = true ∧ Kp (past y at' x = true)) ∨ (decide (y < x) = false ∧ at' = true ∧ Kp (past y at' x = false)) ∨ (decide (y < x) = false ∧ at' = false ∧ (x == y) = true ∧ Kp (past y at' x = true)) ∨ (decide (y < x) = false ∧ at' = false ∧ (x == y) = false ∧ Kp (past y at' x = false)) := by
    unfold past
    by_cases h1 : y < x
    · exact .inl ⟨decide_eq_true h1, ⟨by simp [h1]⟩⟩
    · cases at' with
      | true => exact .inr (.inl ⟨decide_eq_false h1, rfl, ⟨by simp [h1]⟩⟩)
      | false =>
        by_cases h2 : x = y
        · exact .inr (.inr (.inl ⟨decide_eq_false h1, rfl, by simpa using h2, ⟨by simp [h2]⟩⟩))
        · exact .inr (.inr (.inr ⟨decide_eq_false h1, rfl, by simpa using h2, ⟨by simp [h1, h2]⟩⟩))
  generalize past y at' x = r at *
  clear h hvl
  rcases hor with ⟨t1, HE⟩ | ⟨t1, rfl, HE⟩ | ⟨t1, rfl, t2, HE⟩ | ⟨t1, rfl, t2, HE⟩
  all_goals
    rw [HE.out]
    clear HE
    go_enter Tryz.func164, Tryz.ntmps164
    go_wp2
    go_quiet (fail)
    go_wp2
    go_ret
    exact ⟨rfl, nq, rfl⟩

section
variable {g n : Nat} {a : Option Addr} {cap : Nat} {L : List Pt} {oa : Option Addr} {oc : Nat} {O : List Nat} {va : Option Addr} {v vc : Nat} {V : List Int} {wa : Option Addr} {wc : Nat} {R : List Nat}

set_option maxRecDepth 100000 in
set_option maxHeartbeats 2000000 in
theorem gbelow_any (p q : Nat) (y : Int) (at' : Bool) (w : World) (h : GIdx w g a cap n L oa oc O va v vc V wa wc R) (hf : GFacts n L O V R) (hn : n ≤ 150) (hpq : p ≤ q) (hq : q ≤ n) :
    Calls Tryz.prog 127 #[.pointer (some ⟨g, 0, none⟩), .int .i64 p, .int .i64 q, .int .i64 y, .bool at'] w fun e w' => e = .returned (.int .i64 (cntY L O p q y at' : Nat)) ∧ Below w.heap.size w w' := by
  have eg : ∀ args w, (callFunc 164 args).run Tryz.prog w = .ok (.enter 164 args) w := enters_of Tryz.func164 (by kernel_rfl) rfl
  obtain ⟨w2, hw2⟩ : ∃ w2, w2 = ((w.alloc (.cells #[.pointer (some ⟨g, 0, none⟩)] 155)).alloc (.cells #[.int .i64 y] 3)).alloc (.cells #[.bool at'] 4) := ⟨_, rfl⟩
  have HB := Kp.mk (show Below w.heap.size w w2 from by rw [hw2]; exact below_then_alloc (below_then_alloc (below_alloc (Nat.le_refl _) _) _) _)
  have H2 := Kp.mk (h.below HB.out)
  have c1 : w2.cell? ⟨w.heap.size, 0, none⟩ = some (.pointer (some ⟨g, 0, none⟩)) := by rw [hw2]; exact (((Box.new w #[.pointer (some ⟨g, 0, none⟩)] 155).alloc _).alloc _).cell 0 rfl
  have c2 : w2.cell? ⟨w.heap.size + 1, 0, none⟩ = some (.int .i64 y) := by
    have := ((Box.new (w.alloc (.cells #[.pointer (some ⟨g, 0, none⟩)] 155)) #[.int .i64 y] 3).alloc (.cells #[.bool at'] 4)).cell 0 rfl
    rw [alloc_size] at this
    rw [hw2]; exact this
  have c3 : w2.cell? ⟨w.heap.size + 1 + 1, 0, none⟩ = some (.bool at') := by
    have := (Box.new ((w.alloc (.cells #[.pointer (some ⟨g, 0, none⟩)] 155)).alloc (.cells #[.int .i64 y] 3)) #[.bool at'] 4).cell 0 rfl
    rw [alloc_size, alloc_size] at this
    rw [hw2]; exact this
  have g2 := H2.out.bx.cell 2 rfl
  have hvl := H2.out.vlen
  have hvn := hf.vl
  have CS := Kp.mk (search_any 164 #[.pointer (some ⟨w.heap.size, 0, none⟩), .pointer (some ⟨w.heap.size + 1, 0, none⟩), .pointer (some ⟨w.heap.size + 1 + 1, 0, none⟩)] (fun k => past y at' (V.getD k 0)) v eg w2 (by omega)
    (fun W hd k hk => beltest_any w.heap.size (w.heap.size + 1) (w.heap.size + 1 + 1) g k n y at' a cap L oa oc O va v vc V wa wc R W (H2.out.below (hd.below _)) (by omega) ((hd.cell _).trans c1) ((hd.cell _).trans c2) ((hd.cell _).trans c3) hk)
    (fun i j hij hj hi => past_mono (up_le hf.up hij (by omega)) hi))
  have HE0 := Kp.mk (show ∀ k, k ≤ v → (∀ i, i < k → past y at' (V.getD i 0) = false) → (k < v → past y at' (V.getD k 0) = true) → cntBelow (sg R p q) k = cntY L O p q y at' from fun k hk h1 h2 => by
    rw [← below_eq hf p q hq y at', hvl]
    congr 1
    exact (fstIdx_uniq _ _ _ hk h1 h2).symm)
  have HF := Kp.mk hf
  have hw3 := hw2.symm
  have hvn' : v ≤ n := by omega
  obtain ⟨r, hr⟩ : ∃ r, cntY L O p q y at' = r := ⟨_, rfl⟩
  rw [hr] at HE0 ⊢
  clear h hf c2 c3 hw2 hvl hvn hr
  go_enter Tryz.func127, Tryz.ntmps127
  go_wp2_with fail
  refine CS.out.mono ?_
  rintro e w3 ⟨k, rfl, hk, h1, h2, hd⟩
  have HE := Kp.mk (HE0.out k hk h1 h2)
  have H3 := Kp.mk (H2.out.below (hd.below _))
  have d1 := (hd.cell ⟨w.heap.size, 0, none⟩).trans c1
  have g3 := H3.out.bx.cell 3 rfl
  have HB3 := Kp.mk (below_step HB.out (hd.below _))
  have CW := Kp.mk (wBelow_any wa wc 8 n k p q R w3 H3.out.wave HF.out.rl (by omega) (by omega) (by omega) hpq hq (fun z hz => by
    obtain ⟨i, hi, rfl⟩ := List.getElem_of_mem hz
    have := HF.out.rk i (by rw [← HF.out.rl]; exact hi)
    rw [getD_at R 0 hi] at this
    have := HF.out.vl
    omega) (by omega))
  rw [HE.out] at CW
  clear h1 h2 hd CS HE0 HE c1 g2 hw3
  go_wp2_with fail
  refine CW.out.mono ?_
  rintro e w4 ⟨rfl, hb4⟩
  have HB4 := Kp.mk (below_step HB3.out hb4)
  clear hb4 CW
  go_wp2
  go_ret
  exact ⟨rfl, HB4.out⟩

end
end Go.Proofs.YteeeikninigeoaaGreatDoor

/- Package grid: Count. -/
namespace Go.Proofs.YteeeikninigeoaaGreatDoor
set_option linter.unusedVariables false
open Go.RowKit

theorem past_true (y v : Int) : past y true v = decide (y < v) := by unfold past; simp
theorem past_false (y v : Int) : past y false v = decide (y ≤ v) := by
  unfold past
  by_cases h1 : y < v
  · simp [h1]; omega
  · by_cases h2 : v = y
    · simp [h2]
    · simp [h1, h2]; omega
theorem map_range_getD (L : List Pt) : (List.range L.length).map (fun i => L.getD i pt0) = L := by
  apply List.ext_getElem
  · simp
  · intro i h1 h2
    rw [List.getElem_map, List.getElem_range, getD_at _ _ h2]
/-- What Count computes is how many points stand in the rectangle. -/
theorem count_eq {n : Nat} {L : List Pt} {O : List Nat} (hO : IsOrder L O) (hn : L.length = n) (X0 Y0 X1 Y1 : Int) (p b : Nat) (hp : colAt L O n X0 false = p) (hb : colAt L O n X1 true = b) :
    max (0 : Int) ((cntY L O p (max p b) Y1 true : Nat) - (cntY L O p (max p b) Y0 false : Nat)) = (cntR L X0 Y0 X1 Y1 : Nat) := by
  have hol := hO.len
  have hpn : p ≤ n := by rw [← hp]; exact colAt_le _ _ _ _ _
  have hbn : b ≤ n := by rw [← hb]; exact colAt_le _ _ _ _ _
  obtain ⟨S, hS⟩ : ∃ S, S = O.map (fun i => L.getD i pt0) := ⟨_, rfl⟩
  have hSL : S.length = n := by rw [hS, List.length_map]; omega
  have hSg : ∀ i (h : i < S.length), S[i] = L.getD (O.getD i 0) pt0 := fun i h => by
    simp only [hS, List.getElem_map]
    rw [getD_at O 0 (by omega)]
  have hSP : S.Perm L := by
    have := hO.perm.map (fun i => L.getD i pt0)
    rw [map_range_getD] at this
    rw [hS]; exact this
  have hM : ∀ a c, (S.take c).drop a = ((O.take c).drop a).map (fun i => L.getD i pt0) := fun a c => by
    rw [hS, ← List.map_take, ← List.map_drop]
  have e1 : cntY L O p (max p b) Y1 true = ((S.take (max p b)).drop p).countP (fun q => decide (q.y ≤ Y1)) := by
    unfold cntY
    rw [hM, List.countP_map]
    apply List.countP_congr
    intro i _
    rw [past_true]
    simp
  have e2 : cntY L O p (max p b) Y0 false = ((S.take (max p b)).drop p).countP (fun q => decide (q.y < Y0)) := by
    unfold cntY
    rw [hM, List.countP_map]
    apply List.countP_congr
    intro i _
    rw [past_false]
    simp
  have hrc := range_cnt S X0 X1 p b (fun i j hij hj => by
      rw [hSg i (by omega), hSg j hj]
      have := hO.up i j hij (by omega)
      unfold lexLe at this; omega) (by omega) (by omega)
    (fun i hi hip => by
      rw [hSg i hi]
      have := fstIdx_before (fun k => past X0 false (L.getD (O.getD k 0) pt0).x) n i (by unfold colAt at hp; omega)
      rw [past_false] at this
      simpa using this)
    (fun h => by
      rw [hSg p h]
      have := fstIdx_at (fun k => past X0 false (L.getD (O.getD k 0) pt0).x) n (by unfold colAt at hp; omega)
      unfold colAt at hp
      rw [hp, past_false] at this
      simpa using this)
    (fun i hi hip => by
      rw [hSg i hi]
      have := fstIdx_before (fun k => past X1 true (L.getD (O.getD k 0) pt0).x) n i (by unfold colAt at hb; omega)
      rw [past_true] at this
      simpa using this)
    (fun h => by
      rw [hSg b h]
      have := fstIdx_at (fun k => past X1 true (L.getD (O.getD k 0) pt0).x) n (by unfold colAt at hb; omega)
      unfold colAt at hb
      rw [hb, past_true] at this
      simpa using this) (fun q => decide (Y0 ≤ q.y ∧ q.y ≤ Y1))
  rw [e1, e2, two_cnt, hrc, hSP.countP_eq]
  unfold cntR
  congr 2
  funext q
  unfold inR
  rw [Bool.eq_iff_iff]
  simp
  omega
theorem cntY_le (L : List Pt) (O : List Nat) (a b : Nat) (y : Int) (at' : Bool) : cntY L O a b y at' ≤ b := by
  unfold cntY
  refine Nat.le_trans List.countP_le_length ?_
  simp only [List.length_drop, List.length_take]
  omega
attribute [local irreducible] cntR cntY colAt

set_option maxRecDepth 100000 in
set_option maxHeartbeats 2000000 in
theorem gcount_any (a : Option Addr) (cap n : Nat) (L : List Pt) (X0 Y0 X1 Y1 : Int) (w : World) (h : SlF ptL 3 w a n cap L) (h0 : 0 < n) (hn : n ≤ 150) (hN : ∀ p ∈ L, p.Near) :
    Calls Tryz.prog 92 #[.slice a n cap, .agg #[.int .i64 X0, .int .i64 Y0, .int .i64 X1, .int .i64 Y1]] w fun e w' => e = .returned (.tuple #[.int .i64 (cntR L X0 Y0 X1 Y1 : Nat), .int .i64 0]) ∧ Below w.heap.size w w' := by
  obtain ⟨m, rfl⟩ : ∃ m, n = m + 1 := ⟨n - 1, by omega⟩
  have HA := Kp.mk (below_alloc (Nat.le_refl w.heap.size) (.cells #[.int .i64 X0, .int .i64 Y0, .int .i64 X1, .int .i64 Y1] 27))
  have HBX := Kp.mk (Box.new w #[.int .i64 X0, .int .i64 Y0, .int .i64 X1, .int .i64 Y1] 27)
  have H1 := Kp.mk (SlF.below h HA.out)
  have CC := Kp.mk (gcheck_any a cap (m + 1) L _ H1.out hn hN)
  have hm0 : ¬ (m : Int) + 1 = 0 := by omega
  have hm1 : ((m : Int) + 1 == 0) = false := by simpa using hm0
  clear h hN
  go_enter Tryz.func92, Tryz.ntmps92
  go_wp2_with fail
  refine CC.out.mono ?_
  rintro e w1 ⟨rfl, HB1⟩
  have H2 := Kp.mk (SlF.below H1.out HB1.out)
  have HX1 := Kp.mk (HBX.out.below HB1.out)
  have HBB1 := Kp.mk (below_step HA.out HB1.out)
  clear CC H1 HBX HA HB1
  go_wp2_with fail
  refine (gbuild_any a cap (m + 1) L w1 H2.out hn).mono ?_
  rintro e w2 ⟨g, oa, oc, O, va, v, vc, V, wa, wc, R, rfl, HI, HF, HB2, _⟩
  have HX2 := Kp.mk (HX1.out.below HB2.out)
  have HBB2 := Kp.mk (below_step HBB1.out HB2.out)
  have x0 := (HX2.out.cell 0 rfl)
  have x1 := (HX2.out.cell 1 rfl)
  have x2 := (HX2.out.cell 2 rfl)
  have x3 := (HX2.out.cell 3 rfl)
  clear HX1 H2 HBB1 HB2
  have CO := Kp.mk (columns_any X0 Y0 X1 Y1 w2 HI.out.to0 HF.out (by omega))
  have HCE := Kp.mk (fun p b hp hb => count_eq HF.out.ord HF.out.len X0 Y0 X1 Y1 p b hp hb)
  obtain ⟨p, hp⟩ : ∃ p, colAt L O (m + 1) X0 false = p := ⟨_, rfl⟩
  obtain ⟨b, hb⟩ : ∃ b, colAt L O (m + 1) X1 true = b := ⟨_, rfl⟩
  have hpn : p ≤ m + 1 := by rw [← hp]; exact colAt_le _ _ _ _ _
  have hbn : b ≤ m + 1 := by rw [← hb]; exact colAt_le _ _ _ _ _
  have HEQ := Kp.mk (HCE.out p b hp hb)
  rw [hp, hb] at CO
  obtain ⟨q, hq⟩ : ∃ q, max p b = q := ⟨_, rfl⟩
  rw [hq] at CO HEQ
  have hpq : p ≤ q := by omega
  have hqn : q ≤ m + 1 := by omega
  clear hp hb hq HCE hpn hbn
  go_wp2_with fail
  refine CO.out.mono ?_
  rintro e w3 ⟨rfl, hb3⟩
  have HI3 := Kp.mk (HI.out.below hb3)
  have HX3 := Kp.mk (HX2.out.below hb3)
  have HBB3 := Kp.mk (below_step HBB2.out hb3)
  have r1 := later_cell (show w3.cell? ⟨w.heap.size, 1, none⟩ = some (.int .i64 Y0) from HX3.out.cell 1 rfl)
  have r3 := later_cell (show w3.cell? ⟨w.heap.size, 3, none⟩ = some (.int .i64 Y1) from HX3.out.cell 3 rfl)
  have C1 := Kp.mk (fun x : Later w3 => gbelow_any p q Y1 true x.val (HI3.out.below x.le) HF.out hn hpq hqn)
  have C2 := Kp.mk (fun x : Later w3 => gbelow_any p q Y0 false x.val (HI3.out.below x.le) HF.out hn hpq hqn)
  generalize hu1 : cntY L O p q Y1 true = u1 at *
  generalize hu2 : cntY L O p q Y0 false = u2 at *
  have hl1 : u1 ≤ 1000 := by rw [← hu1]; exact Nat.le_trans (cntY_le _ _ _ _ _ _) (by omega)
  have hl2 : u2 ≤ 1000 := by rw [← hu2]; exact Nat.le_trans (cntY_le _ _ _ _ _ _) (by omega)
  have ew : IntKind.i64.wrap ((u1 : Int) - u2) = (u1 : Int) - u2 := IntWalk.i64_in _ (by omega)
  obtain ⟨c, hc⟩ : ∃ c, c = cntR L X0 Y0 X1 Y1 := ⟨_, rfl⟩
  rw [← hc] at HEQ
  have HC := Kp.mk hc
  clear hc
  clear hu1 hu2 CO HI HX2 hb3 x0 x1 x2 x3 HBB2
  go_wp2
  refine region_later (by kernel_rfl) (by kernel_rfl) ?_
  iterate 16 (go_big_quiet_step ((go_at_call 127; first | (with_reducible exact q_later (C1.out _)) | (with_reducible exact q_later (C2.out _)))))
  refine wpQuiet_nil ?_
  rintro w' ⟨xl, rfl⟩
  have HB5 := Kp.mk (below_step HBB3.out xl.le)
  clear r1 r3 C1 C2
  go_wp2
  refine bodyPost_ret (v := .tuple #[.int .i64 (max (0 : Int) ((u1 : Int) - u2)), .int .i64 0]) (by simp [results, Tryz.results92, go_sem]) rfl ?_
  exact ⟨by rw [HEQ.out, HC.out], HB5.out⟩

end Go.Proofs.YteeeikninigeoaaGreatDoor

/- Package grid: the plain facts of Report and Kth. -/
namespace Go.Proofs.YteeeikninigeoaaGreatDoor
set_option linter.unusedVariables false
open Go.RowKit

/-- Whether a place of a list stands in a rectangle. -/
def inL (L : List Pt) (X0 Y0 X1 Y1 : Int) (i : Nat) : Bool := inR X0 Y0 X1 Y1 (L.getD i pt0)
theorem inL_iff (L : List Pt) (X0 Y0 X1 Y1 : Int) (i : Nat) : inL L X0 Y0 X1 Y1 i = true ↔ (X0 ≤ (L.getD i pt0).x ∧ (L.getD i pt0).x ≤ X1 ∧ Y0 ≤ (L.getD i pt0).y ∧ (L.getD i pt0).y ≤ Y1) := by
  unfold inL inR; rw [decide_eq_true_eq]
/-- What is reported: each place in the rectangle, once. -/
structure IsRep (L : List Pt) (X0 Y0 X1 Y1 : Int) (out : List Nat) : Prop where
  perm : out.Perm ((List.range L.length).filter (inL L X0 Y0 X1 Y1))
theorem IsRep.mem {L : List Pt} {X0 Y0 X1 Y1 : Int} {out : List Nat} (h : IsRep L X0 Y0 X1 Y1 out) (i : Nat) : i ∈ out ↔ (i < L.length ∧ inL L X0 Y0 X1 Y1 i = true) := by
  rw [h.perm.mem_iff, List.mem_filter, List.mem_range]
theorem IsRep.nodup {L : List Pt} {X0 Y0 X1 Y1 : Int} {out : List Nat} (h : IsRep L X0 Y0 X1 Y1 out) : out.Nodup := h.perm.nodup_iff.2 (List.nodup_range.filter _)
theorem IsRep.len {L : List Pt} {X0 Y0 X1 Y1 : Int} {out : List Nat} (h : IsRep L X0 Y0 X1 Y1 out) : out.length = cntR L X0 Y0 X1 Y1 := by
  rw [h.perm.length_eq, ← List.countP_eq_length_filter]
  unfold cntR
  conv => rhs; rw [← map_range_getD L, List.countP_map]
  rfl
theorem rep_eq {n : Nat} {L : List Pt} {O : List Nat} (hO : IsOrder L O) (hn : L.length = n) (X0 Y0 X1 Y1 : Int) (p b q : Nat) (hp : colAt L O n X0 false = p) (hb : colAt L O n X1 true = b) (hq : max p b = q) :
    IsRep L X0 Y0 X1 Y1 (((O.take q).drop p).filter (inL L X0 Y0 X1 Y1)) := by
  have hol := hO.len
  have hpn : p ≤ n := by rw [← hp]; exact colAt_le _ _ _ _ _
  have hbn : b ≤ n := by rw [← hb]; exact colAt_le _ _ _ _ _
  have e1 : O = O.take p ++ ((O.take q).drop p ++ O.drop q) := by
    have h1 := List.take_append_drop q O
    have h2 := List.take_append_drop p (O.take q)
    rw [List.take_take, Nat.min_eq_left (by omega)] at h2
    rw [← List.append_assoc, h2, h1]
  have f1 : (O.take p).filter (inL L X0 Y0 X1 Y1) = [] := by
    rw [List.filter_eq_nil_iff]
    intro i hi
    obtain ⟨k, hk, rfl⟩ := List.getElem_of_mem hi
    rw [List.length_take] at hk
    have := fstIdx_before (fun k => past X0 false (L.getD (O.getD k 0) pt0).x) n k (by unfold colAt at hp; omega)
    rw [past_false, decide_eq_false_iff_not] at this
    rw [List.getElem_take, inL_iff, ← getD_at O 0 (by omega)]
    omega
  have f2 : (O.drop q).filter (inL L X0 Y0 X1 Y1) = [] := by
    rw [List.filter_eq_nil_iff]
    intro i hi
    obtain ⟨k, hk, rfl⟩ := List.getElem_of_mem hi
    rw [List.length_drop] at hk
    have h1 := fstIdx_at (fun k => past X1 true (L.getD (O.getD k 0) pt0).x) n (by unfold colAt at hb; omega)
    unfold colAt at hb
    rw [hb, past_true, decide_eq_true_eq] at h1
    have h2 : (L.getD (O.getD b 0) pt0).x ≤ (L.getD (O.getD (q + k) 0) pt0).x := by
      rcases Nat.lt_or_ge b (q + k) with h | h
      · have := hO.up b (q + k) h (by omega)
        unfold lexLe at this; omega
      · rw [show q + k = b by omega]; exact Int.le_refl _
    rw [List.getElem_drop, inL_iff, ← getD_at O 0 (by omega)]
    omega
  have e2 : O.filter (inL L X0 Y0 X1 Y1) = ((O.take q).drop p).filter (inL L X0 Y0 X1 Y1) := by
    conv => lhs; rw [e1]
    rw [List.filter_append, List.filter_append, f1, f2, List.nil_append, List.append_nil]
  refine ⟨?_⟩
  rw [← e2]
  exact hO.perm.filter _

theorem cntR_len (L : List Pt) (X0 Y0 X1 Y1 : Int) : cntR L X0 Y0 X1 Y1 ≤ L.length := by unfold cntR; exact List.countP_le_length
/-- p is the kth of those in a rectangle by their y (those of the same y in whatever order). -/
structure KthOf (L : List Pt) (X0 Y0 X1 Y1 : Int) (k p : Nat) : Prop where
  lt : p < L.length
  inn : inL L X0 Y0 X1 Y1 p = true
  lo : cntR L X0 Y0 X1 ((L.getD p pt0).y - 1) ≤ k
  hi : k < cntR L X0 Y0 X1 (L.getD p pt0).y
theorem cntR_mono (L : List Pt) (X0 Y0 X1 : Int) {u v : Int} (h : u ≤ v) : cntR L X0 Y0 X1 u ≤ cntR L X0 Y0 X1 v := by
  unfold cntR
  refine List.countP_mono_left fun p _ hp => ?_
  unfold inR at *
  rw [decide_eq_true_eq] at *
  omega
theorem KthOf.mono {L : List Pt} {X0 Y0 X1 Y1 : Int} {k k' p p' : Nat} (h : KthOf L X0 Y0 X1 Y1 k p) (h' : KthOf L X0 Y0 X1 Y1 k' p') (hk : k ≤ k') : (L.getD p pt0).y ≤ (L.getD p' pt0).y := by
  have h1 := h.lo
  have h2 := h'.hi
  apply Int.not_lt.1
  intro hc
  have := cntR_mono L X0 Y0 X1 (show (L.getD p' pt0).y ≤ (L.getD p pt0).y - 1 by omega)
  omega

theorem cntY_mono (L : List Pt) (O : List Nat) (p q : Nat) {u v : Int} {a b : Bool} (h : ∀ y, past v b y = true → past u a y = true) : cntY L O p q u a ≤ cntY L O p q v b := by
  unfold cntY
  refine List.countP_mono_left fun i _ hi => ?_
  cases hv : past v b (L.getD i pt0).y with
  | false =>
    cases hu : past u a (L.getD i pt0).y with
    | false => rfl
    | true => rw [hu] at hi; simp at hi
  | true => rw [h _ hv] at hi; simp at hi
/-- The number at a place of a strict order: what lies below it, and up to it. -/
theorem kth_cnt {n : Nat} {L : List Pt} {O R : List Nat} {V : List Int} (h : GFacts n L O V R) (p q : Nat) (hq : q ≤ n) (kk m : Nat) (hk : IsKth (sg R p q) kk m) :
    m < V.length ∧ cntY L O p q (V.getD m 0) false ≤ kk ∧ kk < cntY L O p q (V.getD m 0) true := by
  have hm := hk.mem
  unfold sg at hm
  obtain ⟨j, hj, e⟩ := List.getElem_of_mem (List.mem_of_mem_take (List.mem_of_mem_drop hm))
  have hr := h.rk j (by rw [← h.rl]; exact hj)
  rw [getD_at R 0 hj, e] at hr
  have e1 := below_eq h p q hq (V.getD m 0) false
  have e2 := below_eq h p q hq (V.getD m 0) true
  have hup : ∀ i j, i < j → j < V.length → V.getD i 0 < V.getD j 0 := fun i j hij hj => by
    have h1 := up_le h.up (Nat.le_of_lt hij) hj
    have := h.up
    exact up_lt h.up hij hj
  rw [fstIdx_uniq (fun i => past (V.getD m 0) false (V.getD i 0)) V.length m (by omega) (fun i hi => by
      rw [past_false, decide_eq_false_iff_not]; have := hup i m hi hr.1; omega) (fun _ => by rw [past_false, decide_eq_true_eq]; exact Int.le_refl _)] at e1
  rw [fstIdx_uniq (fun i => past (V.getD m 0) true (V.getD i 0)) V.length (m + 1) (by omega) (fun i hi => by
      rw [past_true, decide_eq_false_iff_not]
      have := up_le h.up (show i ≤ m by omega) hr.1; omega) (fun hl => by rw [past_true, decide_eq_true_eq]; exact hup m (m + 1) (by omega) hl)] at e2
  unfold IsKth at hk
  exact ⟨hr.1, by rw [← e1]; exact hk.1, by rw [← e2]; exact hk.2⟩

/-- All that Kth reckons. -/
theorem kth_facts {n : Nat} {L : List Pt} {O R : List Nat} {V : List Int} (h : GFacts n L O V R) (X0 Y0 X1 Y1 : Int) (p b q : Nat) (hp : colAt L O n X0 false = p) (hb : colAt L O n X1 true = b) (hq : max p b = q) (k low : Nat) (hk : k < cntR L X0 Y0 X1 Y1)
    (hlow : cntY L O p q Y0 false = low) (hn : n ≤ 150) :
    low + k < q - p ∧ ∀ m, IsKth (sg R p q) (low + k) m → ∃ y s, V.getD m 0 = y ∧ m < V.length ∧ cntY L O p q y false = s ∧ low ≤ s ∧ s ≤ low + k ∧ low + k - s < cntR L X0 y X1 y ∧ s ≤ 1000000 ∧
      ∀ out, IsRep L X0 y X1 y out → ∀ t, t ∈ out → KthOf L X0 Y0 X1 Y1 k t := by
  have hbn : b ≤ n := by rw [← hb]; exact colAt_le _ _ _ _ _
  have hpn : p ≤ n := by rw [← hp]; exact colAt_le _ _ _ _ _
  have hol := h.ord.len
  have hl := h.len
  have hc := fun u v => count_eq h.ord h.len X0 u X1 v p b hp hb
  rw [hq] at hc
  have hle : ∀ y a, cntY L O p q y a ≤ q - p := fun y a => by
    unfold cntY
    refine Nat.le_trans List.countP_le_length ?_
    simp only [List.length_drop, List.length_take]
    omega
  have h1 := hc Y0 Y1
  have hY1 := hle Y1 true
  refine ⟨by omega, fun m hm => ?_⟩
  obtain ⟨hmv, lo, hi⟩ := kth_cnt h p q (by omega) _ m hm
  obtain ⟨y, hy⟩ : ∃ y, V.getD m 0 = y := ⟨_, rfl⟩
  rw [hy] at lo hi
  obtain ⟨s, hs⟩ : ∃ s, cntY L O p q y false = s := ⟨_, rfl⟩
  rw [hs] at lo
  have y1 : y ≤ Y1 := by
    apply Int.not_lt.1
    intro hlt
    have := cntY_mono L O p q (u := Y1) (v := y) (a := true) (b := false) (fun z hz => by
      rw [past_false, decide_eq_true_eq] at hz; rw [past_true, decide_eq_true_eq]; omega)
    omega
  have y0 : Y0 ≤ y := by
    apply Int.not_lt.1
    intro hlt
    have := cntY_mono L O p q (u := y) (v := Y0) (a := true) (b := false) (fun z hz => by
      rw [past_false, decide_eq_true_eq] at hz; rw [past_true, decide_eq_true_eq]; omega)
    omega
  have hls : low ≤ s := by
    have := cntY_mono L O p q (u := Y0) (v := y) (a := false) (b := false) (fun z hz => by
      rw [past_false, decide_eq_true_eq] at *; omega)
    omega
  have h2 := hc y y
  have h3 := hc Y0 y
  have h4 := hc Y0 (y - 1)
  have h5 : cntY L O p q (y - 1) true = s := by
    rw [← hs]
    apply Nat.le_antisymm
    · refine cntY_mono L O p q fun z hz => ?_
      rw [past_false, decide_eq_true_eq] at hz
      rw [past_true, decide_eq_true_eq]; omega
    · refine cntY_mono L O p q fun z hz => ?_
      rw [past_true, decide_eq_true_eq] at hz
      rw [past_false, decide_eq_true_eq]; omega
  have h6 := hle y false
  refine ⟨y, s, hy, hmv, hs, hls, lo, by omega, by omega, fun out ho t ht => ?_⟩
  obtain ⟨htl, hti⟩ := (ho.mem t).1 ht
  rw [inL_iff] at hti
  have hty : (L.getD t pt0).y = y := by omega
  refine ⟨htl, ?_, ?_, ?_⟩
  · rw [inL_iff]; omega
  · rw [hty]; omega
  · rw [hty]; omega

end Go.Proofs.YteeeikninigeoaaGreatDoor


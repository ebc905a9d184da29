import Derived.Test.YtladgklnacihkaaGreatMg29
import Derived.Test.YtladgklnacihkaaGreatMg30
import Derived.Test.YtladgklnacihkaaGreatDynN
import Derived.Test.YtladgklnacihkaaGreatGrdY
/- DynGrid: the walk. -/
namespace Go.Proofs.YtladgklnacihkaaGreat
set_option linter.unusedVariables false
open Go.RowKit Dy

def gridL (a b c d k : Int) : List Ac := [⟨3, ⟨0, 0, 0⟩, a, b, c, d, 0, 0⟩, ⟨4, ⟨0, 0, 0⟩, a, b, c, d, 0, k⟩]
theorem gridL_ok {k : Int} (hk : 0 ≤ k ∧ k ≤ 200) (a b c d : Int) : ∀ l ∈ gridL a b c d k, l.Ok := by
  intro l hl
  simp only [gridL, List.mem_cons, List.not_mem_nil, or_false] at hl
  rcases hl with rfl | rfl
  · exact ⟨by simp, ⟨by simp, by simp, by simp⟩, by simp⟩
  · exact ⟨by simp, ⟨by simp, by simp, by simp⟩, hk⟩
/-- What the two looks answer. -/
theorem grid_one {s : St} {a b c d : Int} {r : An} (h : IsAn s ⟨3, ⟨0, 0, 0⟩, a, b, c, d, 0, 0⟩ r) : r.n = (cntR (s.A.map (·.2)) a b c d : Nat) := by
  unfold IsAn at h
  rw [if_neg (by simp), if_neg (by simp), if_pos rfl] at h
  rw [h]
theorem grid_two {s : St} (hs : s.Inv) {a b c d : Int} {k : Nat} {r : An} {rep out : List Nat} (h : IsAn s ⟨4, ⟨0, 0, 0⟩, a, b, c, d, 0, k⟩ r) (hr : IsRep (s.A.map (·.2)) a b c d rep) (ht : IsTop (wtL (s.A.map (·.2))) rep k out) :
    r.ids = out.map (fun i => (s.A.getD i (0, pt0)).1) := by
  unfold IsAn at h
  rw [if_neg (by simp), if_neg (by simp), if_neg (by simp), if_pos rfl] at h
  have h1 := h.2.2
  simp only [Int.toNat_natCast] at h1
  exact h1.unique (List.Perm.refl _) (top_best hs.up hr ht)
theorem grid_ans {L : List Ac} {n : Nat} (hl : L.length = n) {a b c d k : Int} {w : World} {B oc : Nat} {oa : Option Addr} {R : List Aw} (h : Played w B (L ++ gridL a b c d k) oa (n + 2) oc R) (h1 : n < R.length) (h2 : n + 1 < R.length) :
    IsAn (stAt L n) ⟨3, ⟨0, 0, 0⟩, a, b, c, d, 0, 0⟩ (R[n]).r ∧ IsAn (stAt L n) ⟨4, ⟨0, 0, 0⟩, a, b, c, d, 0, k⟩ (R[n + 1]).r := by
  subst hl
  have hk : ∀ x ∈ gridL a b c d k, 3 ≤ x.kind := by
    intro x hx
    simp only [gridL, List.mem_cons, List.not_mem_nil, or_false] at hx
    rcases hx with rfl | rfl <;> simp
  have hg : (gridL a b c d k).length = 2 := rfl
  have g1 := h.ans L.length h1 (by rw [List.length_append, hg]; omega)
  have g2 := h.ans (L.length + 1) h2 (by rw [List.length_append, hg]; omega)
  have s0 := stAt_looks L (gridL a b c d k) hk 0 (by omega)
  have s1 := stAt_looks L (gridL a b c d k) hk 1 (by rw [hg]; omega)
  rw [Nat.add_zero] at s0
  rw [s0] at g1
  rw [s1] at g2
  have e1 : (L ++ gridL a b c d k)[L.length]'(by rw [List.length_append, hg]; omega) = ⟨3, ⟨0, 0, 0⟩, a, b, c, d, 0, 0⟩ := by
    rw [List.getElem_append_right (by omega)]
    simp [gridL]
  have e2 : (L ++ gridL a b c d k)[L.length + 1]'(by rw [List.length_append, hg]; omega) = ⟨4, ⟨0, 0, 0⟩, a, b, c, d, 0, k⟩ := by
    rw [List.getElem_append_right (by omega)]
    simp [gridL]
  rw [e1] at g1
  rw [e2] at g2
  exact ⟨g1, g2⟩

set_option maxRecDepth 100000 in
set_option maxHeartbeats 64000000 in
theorem walk_DynGrid (a0 : Option Addr) (len0 cap0 : Nat) (z0 : List Int) (a1 : Int) (a2 : Int) (a3 : Int) (a4 : Int) (a5 : Int) (w : World) (w0 : IsFlat 8 w a0 len0 cap0 z0) (w1 : (Lit.int .i64 a1).wf = true) (w2 : (Lit.int .i64 a2).wf = true) (w3 : (Lit.int .i64 a3).wf = true) (w4 : (Lit.int .i64 a4).wf = true) (w5 : (Lit.int .i64 a5).wf = true) :
    Calls Tryz.prog 4 #[.slice a0 len0 cap0, .int .i64 a1, .int .i64 a2, .int .i64 a3, .int .i64 a4, .int .i64 a5] w fun e w' => e = .returned (.bool true) ∧ Below w.heap.size w w' := by
  obtain ⟨C, hC, wC, nC⟩ := chores_in w0
  obtain ⟨ik1, ik2⟩ := wf_bd w5
  obtain ⟨vn, en, gn⟩ := pick_nat a5 9 (by omega)
  have CN := Kp.mk (fun W => picked_any a5 9 W (by omega) (by omega) ik1 ik2)
  have CR := Kp.mk (fun W => rectOf_any a1 a2 a3 a4 20 W (by omega) (by omega) w1 w2 w3 w4)
  unfold RectPost at CR
  rw [en] at CN
  have CA := Kp.mk (acts_any a0 cap0 len0 C w hC (hC.len chL_len (by unfold maxLen at nC; omega)) nC wC)
  clear w0 w1 w2 w3 w4 w5 hC wC nC en ik1 ik2
  go_enter Tryz.func4, Tryz.ntmps4
  go_wp2_with fail
  refine CA.out.mono ?_
  rintro e w1 ⟨sa, n, sc, L, rfl, HLF, HO, HB1⟩
  obtain ⟨hln, hn100, hok⟩ := HLF.out
  have HLN := Kp.mk hln
  have HOK := Kp.mk hok
  have HAS1 := Kp.mk (show SlF acL 10 w1 sa n sc L from own_slc HO.out)
  clear CA HLF HO hln hok
  go_wp2_with fail
  refine (CR.out _).mono ?_
  rintro e w2 ⟨X0, Y0, X1, Y1, _, _, _, _, rfl, hb2⟩
  have hal := below_alloc (Nat.le_refl w2.heap.size) (.cells #[.int .i64 (X0 : Int), .int .i64 (Y0 : Int), .int .i64 (X1 : Int), .int .i64 (Y1 : Int)] 30)
  have hb23 := below_step hb2 hal
  have HR3 := Kp.mk (Box.new w2 #[.int .i64 (X0 : Int), .int .i64 (Y0 : Int), .int .i64 (X1 : Int), .int .i64 (Y1 : Int)] 30)
  have HB03 := Kp.mk (below_step HB1.out hb23)
  have HAS3 := Kp.mk (SlF.below HAS1.out hb23)
  clear HB1 HAS1 hb2 hb23 hal CR
  go_upto_region 3 with (fail)
  obtain ⟨w3, hw3⟩ : ∃ w3, w2.alloc (.cells #[.int .i64 (X0 : Int), .int .i64 (Y0 : Int), .int .i64 (X1 : Int), .int .i64 (Y1 : Int)] 30) = w3 := ⟨_, rfl⟩
  rw [hw3] at HR3 HB03 HAS3
  rw [hw3]
  obtain ⟨t14, h14⟩ : ∃ t14, w2.heap.size = t14 := ⟨_, rfl⟩
  rw [h14] at HR3
  simp only [h14]
  clear hw3 h14
  have HKS := Kp.mk (fun (W : World) (hW : Below w3.heap.size w3 W) => show W.cell? ⟨t14, 0, none⟩ = some (.int .i64 (X0 : Int)) ∧ W.cell? ⟨t14, 1, none⟩ = some (.int .i64 (Y0 : Int)) ∧ W.cell? ⟨t14, 2, none⟩ = some (.int .i64 (X1 : Int)) ∧ W.cell? ⟨t14, 3, none⟩ = some (.int .i64 (Y1 : Int)) from
    have hb := HR3.out.below hW
    ⟨hb.cell 0 rfl, hb.cell 1 rfl, hb.cell 2 rfl, hb.cell 3 rfl⟩)
  go_wp2_with (go_at_call 6; refine (CN.out _).mono ?_; rintro e w' ⟨rfl, rfl⟩)
  have hS0 := HKS.out w3 (Below.refl _ _)
  have hD : Below w3.heap.size w3 w3.drew := (Below.refl _ _).drew
  have hDl : Below w3.heap.size w3 (w3.alloc (.cells #[.int .i64 3, .int .i64 0, .int .i64 0, .int .i64 0, .int .i64 X0, .int .i64 Y0, .int .i64 X1, .int .i64 Y1, .int .i64 0, .int .i64 0, .int .i64 4, .int .i64 0, .int .i64 0, .int .i64 0, .int .i64 X0, .int .i64 Y0, .int .i64 X1, .int .i64 Y1, .int .i64 0, .int .i64 (vn : Int)] 32)).drew := (below_alloc (Nat.le_refl _) _).drew
  have hSl := HKS.out _ hDl
  have hzl : w3.heap.size ≤ (w3.alloc (.cells #[.int .i64 3, .int .i64 0, .int .i64 0, .int .i64 0, .int .i64 X0, .int .i64 Y0, .int .i64 X1, .int .i64 Y1, .int .i64 0, .int .i64 0, .int .i64 4, .int .i64 0, .int .i64 0, .int .i64 0, .int .i64 X0, .int .i64 Y0, .int .i64 X1, .int .i64 Y1, .int .i64 0, .int .i64 (vn : Int)] 32)).drew.heap.size := hDl.size
  have CA1 := Kp.mk (fun (W : World) (a : Option Addr) (c : Nat) (h : W.ownsRow w3.heap.size 32 10 (.slice a (n + 2) c) (n + 2) (flat acL L ++ #[.int .i64 3, .int .i64 0, .int .i64 0, .int .i64 0, .int .i64 X0, .int .i64 Y0, .int .i64 X1, .int .i64 Y1, .int .i64 0, .int .i64 0, .int .i64 4, .int .i64 0, .int .i64 0, .int .i64 0, .int .i64 X0, .int .i64 Y0, .int .i64 X1, .int .i64 Y1, .int .i64 0, .int .i64 (vn : Int)].toList)) => answered_any a c (n + 2) (L ++ gridL X0 Y0 X1 Y1 vn) W (by
      have h2 := own_slc h
      have e : flat acL L ++ #[.int .i64 3, .int .i64 0, .int .i64 0, .int .i64 0, .int .i64 X0, .int .i64 Y0, .int .i64 X1, .int .i64 Y1, .int .i64 0, .int .i64 0, .int .i64 4, .int .i64 0, .int .i64 0, .int .i64 0, .int .i64 X0, .int .i64 Y0, .int .i64 X1, .int .i64 Y1, .int .i64 0, .int .i64 (vn : Int)].toList = flat acL (L ++ gridL X0 Y0 X1 Y1 vn) := by rw [flat_append]; simp [flat, acL, gridL]
      rw [e] at h2
      exact h2) (by rw [List.length_append, HLN.out]; rfl) (by omega) (fun x hx => by
      rcases List.mem_append.1 hx with h1 | h1
      · exact HOK.out x h1
      · exact gridL_ok (by omega) _ _ _ _ x h1))
  go_cut [16, 17] (fun v15 v16 wx => ∃ oa oc R, v15 = .slice oa (n + 2) oc ∧ v16 = .bool true ∧ Kp (Played wx w3.heap.size (L ++ gridL X0 Y0 X1 Y1 vn) oa (n + 2) oc R) ∧ Kp (Below w3.heap.size w3 wx))
  case first =>
    go_region_held3 (fun W => W.cell? ⟨t14, 0, none⟩ = some (.int .i64 (X0 : Int)) ∧ W.cell? ⟨t14, 1, none⟩ = some (.int .i64 (Y0 : Int)) ∧ W.cell? ⟨t14, 2, none⟩ = some (.int .i64 (X1 : Int)) ∧ W.cell? ⟨t14, 3, none⟩ = some (.int .i64 (Y1 : Int)))
      (first | exact hS0 | with_reducible exact hSl | with_reducible exact hSa | with_reducible exact hSb | with_reducible exact hSc | with_reducible exact hSd | go_keep)
      ((first
        | (refine step_cat0 tActs (by rfl) _ _ (by rfl) w3.heap.size (by rfl) sa n sc _ (by rfl) (SlF.below HAS3.out hD) (flat_one acL_one L) (by omega) (by decide) (Nat.le_refl _) ?_; intro xa xc wa howna hgra; have hba : Below w3.heap.size w3 wa := hD.trans (below_of_grown hgra (Nat.le_refl _) (fun q hq => by cases hq)); have hSa := HKS.out wa hba; have hbl : Below w3.heap.size w3 (wa.alloc (.cells #[.int .i64 3, .int .i64 0, .int .i64 0, .int .i64 0, .int .i64 X0, .int .i64 Y0, .int .i64 X1, .int .i64 Y1, .int .i64 0, .int .i64 0, .int .i64 4, .int .i64 0, .int .i64 0, .int .i64 0, .int .i64 X0, .int .i64 Y0, .int .i64 X1, .int .i64 Y1, .int .i64 0, .int .i64 (vn : Int)] 32)) := hba.trans (below_alloc hba.size _); have hSb := HKS.out _ hbl; have hown' := howna.alloc (.cells #[.int .i64 3, .int .i64 0, .int .i64 0, .int .i64 0, .int .i64 X0, .int .i64 Y0, .int .i64 X1, .int .i64 Y1, .int .i64 0, .int .i64 0, .int .i64 4, .int .i64 0, .int .i64 0, .int .i64 0, .int .i64 X0, .int .i64 Y0, .int .i64 X1, .int .i64 Y1, .int .i64 0, .int .i64 (vn : Int)] 32); have hat := heap_alloc_new wa (.cells #[.int .i64 3, .int .i64 0, .int .i64 0, .int .i64 0, .int .i64 X0, .int .i64 Y0, .int .i64 X1, .int .i64 Y1, .int .i64 0, .int .i64 0, .int .i64 4, .int .i64 0, .int .i64 0, .int .i64 0, .int .i64 X0, .int .i64 Y0, .int .i64 X1, .int .i64 Y1, .int .i64 0, .int .i64 (vn : Int)] 32); have hzz : w3.heap.size ≤ (wa.alloc (.cells #[.int .i64 3, .int .i64 0, .int .i64 0, .int .i64 0, .int .i64 X0, .int .i64 Y0, .int .i64 X1, .int .i64 Y1, .int .i64 0, .int .i64 0, .int .i64 4, .int .i64 0, .int .i64 0, .int .i64 0, .int .i64 X0, .int .i64 Y0, .int .i64 X1, .int .i64 Y1, .int .i64 0, .int .i64 (vn : Int)] 32)).heap.size := hbl.size)
        | (refine step_cat0 tActs (by rfl) _ _ (by rfl) w3.heap.size (by rfl) sa n sc _ (by rfl) (SlF.below HAS3.out hDl) (flat_one acL_one L) (by omega) (by decide) hzl ?_; intro xa xc wa howna hgra; have hba : Below w3.heap.size w3 wa := hDl.trans (below_of_grown hgra hzl (fun q hq => by cases hq)); have hSa := HKS.out wa hba; have hat : wa.heap[w3.heap.size]? = some (.cells #[.int .i64 3, .int .i64 0, .int .i64 0, .int .i64 0, .int .i64 X0, .int .i64 Y0, .int .i64 X1, .int .i64 Y1, .int .i64 0, .int .i64 0, .int .i64 4, .int .i64 0, .int .i64 0, .int .i64 0, .int .i64 X0, .int .i64 Y0, .int .i64 X1, .int .i64 Y1, .int .i64 0, .int .i64 (vn : Int)] 32) := (hgra.block _ (by show w3.heap.size < (w3.alloc _).heap.size; rw [alloc_size]; omega) (by simp)).trans (heap_alloc_new w3 _); have hzz := hba.size)
        | (refine step_push tActs (by rfl) _ _ (by rfl) w3.heap.size xa n xc _ (by rfl) hown' 2 wa.heap.size _ hat (by rfl) (by rfl) (by simp [Value.oneCell']) (by omega) (by omega) (by omega) hzz ?_; intro ya yc wb hownb hgrb hnob; have hbb : Below w3.heap.size w3 wb := hbl.trans (below_of_grown hgrb hzz (fun q hq => (ty_own hown' hq).2)); have hSc := HKS.out wb hbb)
        | (refine step_push tActs (by rfl) _ _ (by rfl) w3.heap.size xa n xc _ (by rfl) howna 2 w3.heap.size _ hat (by rfl) (by rfl) (by simp [Value.oneCell']) (by omega) (by omega) (by omega) hzz ?_; intro ya yc wb hownb hgrb hnob; have hbb : Below w3.heap.size w3 wb := hba.trans (below_of_grown hgrb hzz (fun q hq => (ty_own howna hq).2)); have hSc := HKS.out wb hbb)
        | (go_at_call 7; refine (CA1.out wb ya yc hownb).mono ?_; rintro e w4 ⟨oa, oc, R, rfl, HPL, HB4⟩; have hb4 : Below w3.heap.size w3 w4 := hbb.trans (HB4.out.mono hbb.size); have hSd := HKS.out w4 hb4)
        | fail))
    all_goals
      have HPL2 := Kp.mk (show Played w4 w3.heap.size (L ++ gridL X0 Y0 X1 Y1 vn) oa (n + 2) oc R from ⟨HPL.out.len, HPL.out.ans, own_base HPL.out.row hbb.size, fun a ha => own_base (HPL.out.ids a ha) hbb.size⟩)
      go_wp2
      go_meet
      exact ⟨oa, oc, R, rfl, rfl, HPL2, ⟨hb4⟩⟩
  case rest =>
  obtain ⟨oa, oc, R, rfl, rfl, HX4, HB34⟩ := hcut
  obtain ⟨w4, rfl⟩ : ∃ w4 : World, w4 = wc := ⟨_, rfl⟩
  clear HKS hS0 hD hDl hSl hzl CA1 CN
  have HB04 := Kp.mk (below_step HB03.out HB34.out)
  have HR4 := Kp.mk (HR3.out.below HB34.out)
  have HAS4 := Kp.mk (SlF.below HAS3.out HB34.out)
  clear HB03 HR3 HAS3 HB34
  have HRL := Kp.mk HX4.out.len
  have hglen : (gridL X0 Y0 X1 Y1 vn).length = 2 := rfl
  have hgl : (L ++ gridL X0 Y0 X1 Y1 vn).length = n + 2 := by rw [List.length_append, HLN.out, hglen]
  obtain ⟨gx, rfl, _, _⟩ := own_some HX4.out.row (by omega)
  have hnoc : n ≤ oc := by have := (own_slc HX4.out.row).le; omega
  have HLX := Kp.mk (show SlF anL 3 w4 (some ⟨gx, 0, none⟩) n oc (R.take n) from by
    have := (own_slc HX4.out.row).front (m := n) (by omega)
    rw [Go.Proofs.YtladgklnacihkaaGreat.flat_take anL_len] at this
    exact this)
  have CL := Kp.mk (alive_any sa sc n L (some ⟨gx, 0, none⟩) oc (R.take n) w4 HAS4.out HLX.out HLN.out (by rw [List.length_take, HRL.out]; omega) (by omega) HOK.out (fun j h h' => by
    have h1 := HX4.out.ans j (by rw [HRL.out]; have := HLN.out; omega) (by rw [hgl]; have := HLN.out; omega)
    rw [List.getElem_append_left h', stAt_append _ _ _ (by omega)] at h1
    rw [List.getElem_take]
    exact h1))
  clear HLX
  go_wp2_with fail
  refine CL.out.mono ?_
  rintro e w5 ⟨ia, pa, ic, pc, m, rfl, HI⟩
  have hRn : n < R.length := by rw [HRL.out]; omega
  have hRn1 : n + 1 < R.length := by rw [HRL.out]; omega
  obtain ⟨g1, g2⟩ := grid_ans HLN.out HX4.out hRn hRn1
  have hinv := inv_at L HOK.out n (by rw [HLN.out]; omega)
  have hnx := next_at L n (by rw [HLN.out]; omega)
  generalize stAt L n = st at *
  obtain ⟨A, nx⟩ := st
  simp only at HI hnx
  have hm : A.length = m := HI.out.len
  have hmn : m ≤ 100 := by omega
  have HIV := Kp.mk hinv
  have HG2 := Kp.mk g2
  have hcc := grid_one g1
  simp only at hcc
  have HPE := Kp.mk (show ∃ P, A.map (·.2) = P from ⟨_, rfl⟩)
  obtain ⟨P, hP⟩ := HPE.out
  have HNR := Kp.mk (show ∀ p ∈ P, p.Near from fun p hp => by
    rw [← hP] at hp
    obtain ⟨a, ha, rfl⟩ := List.mem_map.1 hp
    exact hinv.near a ha)
  have hPl : P.length = m := by rw [← hP, List.length_map, hm]
  rw [hP] at hcc
  obtain ⟨cc, hce⟩ : ∃ cc, cntR P X0 Y0 X1 Y1 = cc := ⟨_, rfl⟩
  rw [hce] at hcc
  have HPP := Kp.mk hP
  have HCC := Kp.mk hcc
  have HAM := Kp.mk hm
  have HP5 := Kp.mk (show SlF ptL 3 w5 pa m pc P from by
    have := own_slc HI.out.pts
    unfold ptV at this
    rw [hP] at this
    exact this)
  have HID5 := Kp.mk HI.out.ids
  have hb45 := HI.out.bel
  have HB05 := Kp.mk (below_step HB04.out hb45)
  have HR5 := Kp.mk (HR4.out.below hb45)
  have HX5 := Kp.mk (HX4.out.below hb45)
  have CG := Kp.mk (fun (W : World) (a : Option Addr) (c : Nat) (h : SlF ptL 3 W a m c P) => gcountN a c m P X0 Y0 X1 Y1 W h hPl (by omega) HNR.out)
  rw [hce] at CG
  have CT := Kp.mk (fun (W : World) (a : Option Addr) (c : Nat) (h : SlF ptL 3 W a m c P) (ha : ∀ q, blk a = some q → q < W.heap.size) => gTop_any a c m P X0 Y0 X1 Y1 vn W h (by omega) HNR.out ha (by omega))
  clear HI CL g1 g2 hinv hnx hcc hP HPE hm hPl hce HB04 HR4 HX4 HAS4 hb45 HNR HOK
  have HKS := Kp.mk (fun (W : World) (hW : Below w5.heap.size w5 W) => show W.cell? ⟨t14, 0, none⟩ = some (.int .i64 (X0 : Int)) ∧ W.cell? ⟨t14, 1, none⟩ = some (.int .i64 (Y0 : Int)) ∧ W.cell? ⟨t14, 2, none⟩ = some (.int .i64 (X1 : Int)) ∧ W.cell? ⟨t14, 3, none⟩ = some (.int .i64 (Y1 : Int)) from
    have hb := HR5.out.below hW
    ⟨hb.cell 0 rfl, hb.cell 1 rfl, hb.cell 2 rfl, hb.cell 3 rfl⟩)
  have hS0 := HKS.out w5 (Below.refl _ _)
  have hD : Below w5.heap.size w5 w5.drew := (Below.refl _ _).drew
  go_upto_region 9 with (fail)
  go_cut [21, 22] (fun v21 v22 wx => v21 = .int .i64 (cc : Nat) ∧ v22 = .int .i64 0 ∧ Kp (Below w5.heap.size w5 wx))
  case first =>
    go_region_held3 (fun W => W.cell? ⟨t14, 0, none⟩ = some (.int .i64 (X0 : Int)) ∧ W.cell? ⟨t14, 1, none⟩ = some (.int .i64 (Y0 : Int)) ∧ W.cell? ⟨t14, 2, none⟩ = some (.int .i64 (X1 : Int)) ∧ W.cell? ⟨t14, 3, none⟩ = some (.int .i64 (Y1 : Int)))
      (first | exact hS0 | with_reducible exact hSa | with_reducible exact hSb | go_keep)
      ((first
        | (refine step_cat0 tPts (by rfl) _ _ (by rfl) w5.heap.size (by rfl) pa m pc _ (by rfl) (SlF.below HP5.out hD) (flat_one ptL_one _) (by omega) (by decide) hD.size ?_; intro xa xc wa howna hgra; have hba : Below w5.heap.size w5 wa := hD.trans (below_of_grown hgra hD.size (fun q hq => by cases hq)); have hSa := HKS.out wa hba; have HC := Kp.mk (CG.out wa xa xc (own_slc howna)))
        | (go_at_call 11; refine HC.out.mono ?_; rintro e w6 ⟨rfl, hb6⟩; have hbb : Below w5.heap.size w5 w6 := hba.trans (hb6.mono hba.size); have hSb := HKS.out w6 hbb)
        | fail))
    all_goals
      go_wp2
      go_meet
      exact ⟨rfl, rfl, ⟨hbb⟩⟩
  case rest =>
  obtain ⟨rfl, rfl, HB56⟩ := hcut
  obtain ⟨w6, rfl⟩ : ∃ w6 : World, w6 = wc := ⟨_, rfl⟩
  have HB06 := Kp.mk (below_step HB05.out HB56.out)
  have HR6 := Kp.mk (HR5.out.below HB56.out)
  have HX6 := Kp.mk (HX5.out.below HB56.out)
  have HP6 := Kp.mk (SlF.below HP5.out HB56.out)
  have HID6 := Kp.mk (own_below HID5.out HB56.out)
  clear HKS hS0 hD HB05 HR5 HX5 HP5 HID5 HB56 CG
  have HKS := Kp.mk (fun (W : World) (hW : Below w6.heap.size w6 W) => show W.cell? ⟨t14, 0, none⟩ = some (.int .i64 (X0 : Int)) ∧ W.cell? ⟨t14, 1, none⟩ = some (.int .i64 (Y0 : Int)) ∧ W.cell? ⟨t14, 2, none⟩ = some (.int .i64 (X1 : Int)) ∧ W.cell? ⟨t14, 3, none⟩ = some (.int .i64 (Y1 : Int)) from
    have hb := HR6.out.below hW
    ⟨hb.cell 0 rfl, hb.cell 1 rfl, hb.cell 2 rfl, hb.cell 3 rfl⟩)
  have hS0 := HKS.out w6 (Below.refl _ _)
  have hD : Below w6.heap.size w6 w6.drew := (Below.refl _ _).drew
  go_upto_region 10 with (fail)
  go_cut [23, 24] (fun v23 v24 wx => ∃ ra q rc out, v23 = .slice ra q rc ∧ v24 = .int .i64 0 ∧ Kp (out.length = q ∧ ∃ rep, IsRep P X0 Y0 X1 Y1 rep ∧ IsTop (wtL P) rep vn out) ∧ Kp (wx.ownsRow w6.heap.size 3 1 (.slice ra q rc) q (ints (out.map Int.ofNat))) ∧ Kp (Below w6.heap.size w6 wx))
  case first =>
    go_region_held3 (fun W => W.cell? ⟨t14, 0, none⟩ = some (.int .i64 (X0 : Int)) ∧ W.cell? ⟨t14, 1, none⟩ = some (.int .i64 (Y0 : Int)) ∧ W.cell? ⟨t14, 2, none⟩ = some (.int .i64 (X1 : Int)) ∧ W.cell? ⟨t14, 3, none⟩ = some (.int .i64 (Y1 : Int)))
      (first | exact hS0 | with_reducible exact hSa | with_reducible exact hSb | go_keep)
      ((first
        | (refine step_cat0 tPts (by rfl) _ _ (by rfl) w6.heap.size (by rfl) pa m pc _ (by rfl) (SlF.below HP6.out hD) (flat_one ptL_one _) (by omega) (by decide) hD.size ?_; intro xa xc wa howna hgra; have hba : Below w6.heap.size w6 wa := hD.trans (below_of_grown hgra hD.size (fun q hq => by cases hq)); have hSa := HKS.out wa hba; have HC := Kp.mk (CT.out wa xa xc (own_slc howna) (fun q hq => (own_lt howna q hq).2)))
        | (go_at_call 12; refine HC.out.mono ?_; rintro e w7 ⟨ra, q, rc, out, rfl, HOQ, HOW, hb7⟩; have hbb : Below w6.heap.size w6 w7 := hba.trans (hb7.out.mono hba.size); have hSb := HKS.out w7 hbb)
        | fail))
    all_goals
      have HOW2 := Kp.mk (own_base HOW.out hba.size)
      go_wp2
      go_meet
      exact ⟨ra, q, rc, out, rfl, rfl, HOQ, HOW2, ⟨hbb⟩⟩
  case rest =>
  obtain ⟨ra, q, rc, out, rfl, rfl, HOQ, HOW, HB67⟩ := hcut
  obtain ⟨w7, rfl⟩ : ∃ w7 : World, w7 = wc := ⟨_, rfl⟩
  obtain ⟨hoq, rep, hrep, htop⟩ := HOQ.out
  have HB07 := Kp.mk (below_step HB06.out HB67.out)
  have HX7 := Kp.mk (HX6.out.below HB67.out)
  have HID7 := Kp.mk (own_below HID6.out HB67.out)
  clear HKS hS0 hD HB06 HR6 HX6 HP6 HID6 HB67 CT HOQ
  have HIDS := Kp.mk (show (R[n + 1]).r.ids = out.map (fun i => (A.getD i (0, pt0)).1) from grid_two HIV.out HG2.out (by simp only; rw [HPP.out]; exact hrep) (by simp only; rw [HPP.out]; exact htop))
  have HOM := Kp.mk (show ∀ o ∈ out, o < m from fun o ho => by
    have h1 := ((hrep.mem o).1 (htop.mem o ho)).1
    rwa [← HPP.out, List.length_map, HAM.out] at h1)
  obtain ⟨hsi, hil⟩ := HX7.out.idsl (n + 1) hRn1
  have hiq : (R[n + 1]).m = q := by rw [← hil, HIDS.out, List.length_map, hoq]
  have HSI := Kp.mk hsi
  have HXC := Kp.mk (fun (W : World) (hW : Below w7.heap.size w7 W) => show W.cell? ⟨gx, (n + 1) * 3 + 2, none⟩ = some (.slice (R[n + 1]).ra q (R[n + 1]).rc) from by
    have := ((HX7.out.below hW).cells (n + 1) hRn1).2.2
    rw [hiq] at this
    exact this)
  have HOQ := Kp.mk hoq
  have c1 : w7.cell? ⟨gx, n * 3 + 1, none⟩ = some (.int .i64 (cc : Nat)) := by
    have := (HX7.out.cells n hRn).2.1
    rw [HCC.out] at this
    exact this
  have c2 := HXC.out w7 (Below.refl _ _)
  generalize (R[n + 1]).ra = xra at *
  generalize (R[n + 1]).rc = xrc at *
  generalize (R[n + 1]).r.ids = xids at *
  have en1 : IntKind.i64.wrap ((n : Int) + 1) = (n : Int) + 1 := IntWalk.i64_in _ (by omega)
  have hq9 : q ≤ 20 := by
    have h1 := htop.len
    rw [hoq] at h1
    omega
  clear hsi hil hiq hoq hrep htop HX7 HCC HRL HG2 HIV HPP
  go_wp2
  go_loopw [25] (fun i wr => ∃ k : Nat, k ≤ q ∧ i = .int .i64 k ∧ Kp (Below w7.heap.size w7 wr)) (fun i _ => q - (intOf i).toNat)
  case atStart => exact ⟨0, Nat.zero_le _, rfl, ⟨Below.refl _ _⟩⟩
  case round =>
    obtain ⟨k, hk, rfl, HBr⟩ := hrel
    by_cases hlt : k < q
    · have hko : k < out.length := by rw [HOQ.out]; exact hlt
      have hkx : k < xids.length := by rw [HIDS.out, List.length_map]; exact hko
      have hom : out[k] < m := HOM.out _ (List.getElem_mem hko)
      have hxe : xids[k] = (A.getD out[k] (0, pt0)).1 := by
        have h1 := HIDS.out
        subst h1
        rw [List.getElem_map]
      have homA : out[k] < A.length := by rw [HAM.out]; exact hom
      rw [getD_at _ _ homA] at hxe
      obtain ⟨go, rfl, _, _⟩ := own_some HOW.out (by omega)
      obtain ⟨gi, rfl, _, _⟩ := own_some HID7.out (by omega)
      have x2 := HXC.out wr HBr.out
      obtain ⟨xb, xo, rfl, cx⟩ := (HSI.out.below HBr.out).at k hkx
      have o1 : wr.cell? ⟨go, k, none⟩ = some (.int .i64 (out[k] : Nat)) := own_atK (own_below HOW.out HBr.out) k _ (by unfold ints; simp [hko])
      have i1 : wr.cell? ⟨gi, out[k], none⟩ = some (.int .i64 (A[out[k]]).1) := own_atK (own_below HID7.out HBr.out) out[k] _ (by unfold idV ints; simp [homA])
      rw [hxe] at cx
      generalize (A[out[k]]).1 = z at *
      generalize out[k] = o at *
      have t1 : decide ((o : Int) < 0) = false := decide_eq_false (by omega)
      have t2 : decide ((m : Int) ≤ (o : Int)) = false := decide_eq_false (by omega)
      clear hxe hkx hko homA
      have hb0 : (0 : Int) ≤ (n : Int) + 1 := by omega
      have hb1 : (n : Int) + 1 < (n : Int) + 2 := by omega
      have hb2 : ((n : Int) + 1).toNat = n + 1 := by omega
      go_wp2
      go_quiet (fail)
      go_wp2
      go_roundw
      case rel => exact ⟨k + 1, by omega, by go_num, ⟨below_drewN HBr.out _⟩⟩
      case measure => simp [intOf]; omega
    · obtain rfl : k = q := by omega
      have HBF := Kp.mk (below_step HB07.out HBr.out)
      go_wp2
      go_ret
      exact ⟨rfl, HBF.out⟩

end Go.Proofs.YtladgklnacihkaaGreat

